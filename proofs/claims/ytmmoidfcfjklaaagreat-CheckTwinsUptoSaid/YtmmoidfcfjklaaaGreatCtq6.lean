/-
  Parts of the proof: Ctp11, Ctp12, Ctp13.
-/
import Derived.Test.YtmmoidfcfjklaaaGreatCtq5
import Derived.TacticsIn
import Derived.RangeFuncIn
import Derived.RangeFuncCalls
import Derived.RangeFuncRecord
import Derived.WalkKit
import Derived.WalkLawsBesides
import Derived.Test.YtmmoidfcfjklaaaGreatSortShelf
import Derived.Deep.LoopGhost
import Derived.Deep.Draws
import Derived.Deep.QuietTactic
import Derived.OpenShut
import Derived.ProofKit
import Derived.Lib.SlicesCompact
import Derived.Deep.AppendLies
import Derived.Deep.DeepCutAuto
import Derived.Sort.OwnSortedInts
set_option linter.unusedVariables false
set_option linter.unusedSimpArgs false
set_option linter.defProp false
set_option maxRecDepth 100000
set_option maxHeartbeats 16000000
namespace Go.Proofs.YtmmoidfcfjklaaaGreat
open Go.RowKit
section
section
section
variable {P:Program} {f:FuncId} {args:List AV}
theorem M8 {cx:Cx} {w':World} {L:Nat -> Value} {v:Value} {R:cM} (h5:R.Ok) (h7:iL cx w' R.tab L) (h8:bN cx w' R.tab L v R.r) (id:Nat):(R.frz id).Ok /\ iL cx w' (R.frz id).tab L /\ bN cx w' (R.frz id).tab L v (R.frz id).r:=by
 unfold cM.frz;split
 .rename_i e' sz rows hid;obtain ⟨h9,h10⟩:=sC h7 (fun k o hk=>(h5.young k o hk).2) hid;refine ⟨⟨fun k o hk=>?_,nH h5.lt⟩,h9,h10 v _ h8 h5.lt⟩;simp only [ae.gc,dk] at hk;split at hk
  .cases hk
  .cases hg:R.tab.get k with
   | none=>simp [hg] at hk
   | some o'=>
    simp [hg] at hk;subst hk;exact ⟨(h5.young k o' hg).1,ng (h5.young k o' hg).2⟩
 .exact ⟨h5,h7,h8⟩
theorem Aa {cx:Cx} {w':World} {L:Nat -> Value} {v:Value}:∀ (ids:List Nat) {R:cM},R.Ok -> iL cx w' R.tab L -> bN cx w' R.tab L v R.r -> (R.frzs ids).Ok /\ iL cx w' (R.frzs ids).tab L /\ bN cx w' (R.frzs ids).tab L v (R.frzs ids).r
 | [],R,h1,h2,h3=>⟨h1,h2,h3⟩
 | id :: ids,R,h1,h2,h3=>by
  obtain ⟨h4,h5,h6⟩:=M8 h1 h2 h3 id;exact Aa ids h4 h5 h6
inductive oI:AV -> AV -> Prop
 | one {a b:AV} (h:tv a b):oI a b
 | tup {l l':List AV} (h:nC l l'):oI (.tup l) (.tup l')
theorem LM {w:World} {S:Nat -> Prop} {K:Nat -> Option (Nat × Value)} {x:Value} {av:AV} (h:RV w S K x av):av.lt 0 -> RT w S x av:=by
 induction h with
 | tree h=>exact fun _=>h
 | osl x id h=>exact fun h2=>by simp [AV.lt] at h2
 | op x id i j h=>exact fun h2=>by simp [AV.lt] at h2
 | agg xs cs hn hr ih=>
  intro h2;simp only [AV.lt] at h2;exact .agg xs cs hn fun j x av h3 h4=>ih j x av h3 h4 (ak.1 h2 av (p0 h4))
 | tup xs cs hn hr ih=>
  intro h2;simp only [AV.lt] at h2;exact .tup xs cs hn fun j x av h3 h4=>ih j x av h3 h4 (ak.1 h2 av (p0 h4))
 | fn f xs cs hn hr ih=>
  intro h2;simp only [AV.lt] at h2;exact .fn f xs cs hn fun j x av h3 h4=>ih j x av h3 h4 (ak.1 h2 av (p0 h4))
 | bfn f xs cs hn hr ih=>
  intro h2;simp only [AV.lt] at h2;exact .bfn f xs cs hn fun j x av h3 h4=>ih j x av h3 h4 (ak.1 h2 av (p0 h4))
theorem RT.tup_inv {w:World} {S:Nat -> Prop} {x:Value} {cs:List AV} (h:RT w S x (.tup cs)):∃ xs:Array Value,x=.tuple xs /\ xs.size=cs.length /\ ∀ (j:Nat) (x:Value) (av:AV),xs[j]? = some x -> cs[j]? = some av -> RT w S x av:=by
 cases h with
 | tup xs _ hn hr=>exact ⟨xs,rfl,hn,hr⟩
theorem oI.rt {w:World} {S:Nat -> Prop} {v:Value} {a b:AV} (h:oI a b) (hr:RT w S v a):RT w S v b:=by
 cases h with
 | one h=>exact h.rt hr
 | @tup l l' h=>
  obtain ⟨xs,rfl,hn,hx⟩:=hr.tup_inv;obtain ⟨h1,h2⟩:=h.spec;refine .tup xs l' (by omega) fun j x av h3 h4=>?_
  have hj:j<l.length:=by
   have:=(Vd.1 h4).1;omega
  have h5:l[j]? = some l[j]:=f4 hj;exact (h2 j _ av h5 h4).rt (hx j x _ h3 h5)
theorem kC {R:cM} (h1:cO R.n R.tab) (h2:R.r.lt R.n):R.Ok:=by
 refine ⟨?_,h2⟩;revert h1;generalize R.tab=T
 induction T with
 | nil=>exact fun _ id o h=>by cases h
 | cons p T ih=>
  obtain ⟨k,ob⟩:=p;intro h1 id o h;rw [ae.gc] at h
  cases ob with
  | none=>
   simp only [cO] at h1;split at h
   .cases h
   .exact ih h1 id o h
  | some ob=>
   simp only [cO] at h1;split at h
   .rename_i e;cases h;exact ⟨by rw [e];exact h1.1.1,h1.1.2⟩
   .exact ih h1.2 id o h
theorem dt.tree {Post:cM -> Prop} {r':AV} (h:dt P f args Post) (hl:r'.lt 0) (hp:∀ R,Post R -> ∃ ids,(R.frzs ids).r.lt 0 /\ oI (R.frzs ids).r r'):aw P f args ⟨r',[],0⟩:=
 ⟨h.1,fun S w vs h1 h2 h3=>(h.2 S w vs h1 h2 h3).mono fun e w' ⟨v,L,R,h4,h5,h6,h7,h8⟩=>by
  obtain ⟨ids,ha,hc⟩:=hp R h4;obtain ⟨h9,h10,h11⟩:=Aa ids h5 h7 h8;have hext:mM (Cx.mk0 S w h1) w' (R.frzs ids).tab L 0 w' [] L:=⟨fun _ _=>rfl,fun b hb=>⟨hb.1,hb.2.1,fun k o hk=>(by cases hk)⟩,fun k p _ hk=>by simp [Kx,ae.get] at hk⟩;have h12:=LM (hext.rv h11 ha) ha;exact ⟨v,L,⟨r',[],0⟩,rfl,⟨fun id o hk=>(by cases hk),hl⟩,h6,⟨h10.below,fun id o hk=>(by cases hk),fun id id' o o' g hk=>(by cases hk),fun b hb=>hb.elim⟩,.tree (hc.rt h12)⟩⟩
end
theorem oG {P:Program} {f:FuncId} {args:List AV} {e:TypeId} {sz:Nat} {rows:List (List AV)} (h:dt P f args fun R=>R=iZ e sz rows \/ (R=val (.slice none 0 0) /\ rows=[])):aw P f args ⟨.sl sz rows,[],0⟩:=
 h.tree (by simp [AV.lt]) fun R hR=>by
  rcases hR with rfl|⟨rfl,rfl⟩
  .refine ⟨[0],?_⟩;have e:((iZ e sz rows).frzs [0]).r=.sl sz rows:=(by simp [cM.frzs,cM.frz,iZ,ae.gc,AV.frz]);rw [e];exact ⟨trivial,.one (.one (.refl _))⟩
  .exact ⟨[],trivial,.one (.one (.nil sz))⟩
def kx (m:bk):St:=⟨m.inits,0,0,List.replicate m.events.length 0,List.replicate m.events.length 0⟩
def eC (m:bk):cM:=⟨.agg [sI m.inits,eI 0,eI 0,.osl 0,.osl 1],[(0,some (.row 3 1 ((List.replicate m.events.length 0).map fun n=>[eI n]))),(1,some (.row 3 1 ((List.replicate m.events.length 0).map fun n=>[eI n])))],2⟩
end
section
def eD (m:bk):St:=mb m (-1) (kx m) m.order.length
theorem Ex (m:bk) (hl:m.inits.length<=1000000) (hl2:m.events.length<=1000000):aw Tryz.prog 113 [.agg (aW m)] ⟨.agg (gE (kx m)),[],0⟩:=by
 refine aw.still (R:=⟨.agg [.osl 2,eI 0,eI 0,.osl 0,.osl 1],(2,some (.row 2 1 (m.inits.map fun n=>[eI n]))) :: (eC m).tab,3⟩) [0,1,2] ?_ ?_ (by simp [AV.lt,AV.ltL])
 .refine aa ag Tryz.func113 rfl (by decide) Tryz.ntmps113 Tryz.results113 rfl (kC (by simp [eC,cO,aE.lt,AV.ltL,AV.lt]) (by simp [AV.lt,AV.ltL])) ?_
  repeat' first|refine go ?_|decide|refine sp ?_ ?_<;>intro _
  refine ap [1] [1,2,4,6] (.three 0 (.three 3 (.two 5 (.exec 7 (.take 8 (.exec 9 .done))) 7 (.exec 5 (.take 8 (.exec 9 .done)))) 5 (.two 3 (.exec 7 (.take 8 (.exec 9 .done))) 7 (.exec 3 (.take 8 (.exec 9 .done)))) 7 (.two 3 (.exec 5 (.take 8 (.exec 9 .done))) 5 (.exec 3 (.take 8 (.exec 9 .done))))) 5 (.two 0 (.two 3 (.exec 7 (.take 8 (.exec 9 .done))) 7 (.exec 3 (.take 8 (.exec 9 .done)))) 7 (.exec 0 (.exec 3 (.take 8 (.exec 9 .done))))) 7 (.two 0 (.two 3 (.exec 5 (.take 8 (.exec 9 .done))) 5 (.exec 3 (.take 8 (.exec 9 .done)))) 5 (.exec 0 (.exec 3 (.take 8 (.exec 9 .done)))))) (by kernel_rfl) (by simp [ae.gc]) ?_
  repeat' first|refine gq ?_|decide|refine sp ?_ ?_<;>intro _|(with_reducible apply And.intro)
  all_goals first
   | omega
   | rfl
   | exact ⟨[2,3,4],by decide,rfl,by simp [cH,eC,ae.gc]⟩
   | exact ⟨[2,3,5],by decide,rfl,by simp [cH,eC,ae.gc]⟩
   | exact ⟨[2,4,3],by decide,rfl,by simp [cH,eC,ae.gc]⟩
   | exact ⟨[2,4,5],by decide,rfl,by simp [cH,eC,ae.gc]⟩
   | exact ⟨[2,5,3],by decide,rfl,by simp [cH,eC,ae.gc]⟩
   | exact ⟨[2,5,4],by decide,rfl,by simp [cH,eC,ae.gc]⟩
   | exact ⟨[3,2,4],by decide,rfl,by simp [cH,eC,ae.gc]⟩
   | exact ⟨[3,2,5],by decide,rfl,by simp [cH,eC,ae.gc]⟩
   | exact ⟨[3,4,5],by decide,rfl,by simp [cH,eC,ae.gc]⟩
   | exact ⟨[3,5,4],by decide,rfl,by simp [cH,eC,ae.gc]⟩
   | exact ⟨[4,2,5],by decide,rfl,by simp [cH,eC,ae.gc]⟩
   | exact ⟨[4,3,5],by decide,rfl,by simp [cH,eC,ae.gc]⟩
   | exact ⟨[4,5,3],by decide,rfl,by simp [cH,eC,ae.gc]⟩
   | exact ⟨[5,2,4],by decide,rfl,by simp [cH,eC,ae.gc]⟩
   | exact ⟨[5,4,3],by decide,rfl,by simp [cH,eC,ae.gc]⟩
   | exact ⟨[5,3,4],by decide,rfl,by simp [cH,eC,ae.gc]⟩
 .simp [eC,kx,cM.frzs,cM.frz,ae.gc,AV.frz,AV.frzL,b9,aE.frz]
theorem GB (m:bk) (hf:ur m) (hp:∀ p ∈ m.stages,aI p.2):aw Tryz.prog 71 [.agg (aW m)] ⟨.agg (gE (eD m)),[],0⟩:=by
 refine aa ag Tryz.func71 rfl (by decide) Tryz.ntmps71 Tryz.results71 rfl (TP _) ?_;obtain ⟨-,-,-,hel,-,-,-,-,-,hil⟩:=id hf.sizes;have z:cN 0:=by unfold cN;omega
 repeat' first|refine go ?_|decide|refine sp ?_ ?_<;>intro _
 refine ap [1] [0,1] (.exec 2 (.exec 3 (.exec 4 .done))) (by kernel_rfl) (by simp [ae.gc]) ?_
 repeat' first|refine gq ?_|decide|refine sp ?_ ?_<;>intro _|((with_reducible apply cZ (g:=113));exact (Ex _ (by omega) (by omega));exact (ro))|((with_reducible apply cZ (g:=112));exact (IZ m (kx m) (-1) hf hp z z);exact (ro))
 exact aX (by simp [AV.ren,AV.renL,eD])
end
section
noncomputable def ux (m:bk) (s:St):Bool:=iO (fun e=>iO (fun u=>dV m s (e:Int) (u:Int)) m.users.length) m.events.length
theorem ri {r' av:AV} {st:aj} (hr:av.ren []=av) (hl:av.lt 0) (hf:oI av r'):∃ R:cM,(∃ ids,(R.frzs ids).r.lt 0 /\ oI (R.frzs ids).r r') /\ R.Ok /\ fe R st av:=⟨⟨av,[],0⟩,⟨[],hl,hf⟩,⟨fun id o h=>(by cases h),hl⟩,aX hr⟩
end
section
section
variable {P:Program} {cx:Cx} {a:Act} {w w' w'':World} {st:aj} {tab tab' tab'':ae} {L L' L'':Nat -> Value} {nx nx' nx'':Nat}
theorem bK (st:aj) (d:Option Nat) (av:AV):(st.put d av).tab=st.tab:=by cases d<;>rfl
theorem bH (st:aj) (d:Option Nat) (av:AV):(st.put d av).next=st.next:=by cases d<;>rfl
theorem qb (h:aJ cx a w st L) (hb:Below w.heap.size w w') {v:Value} {ob:aE} (hnew:∀ g,aO v=some g -> w.heap.size<=g):Fr cx w st.tab L st.next w' ((st.next,some ob) :: st.tab) (bq L st.next v) (st.next+1):=
 pc (fun id o hid=>(h.young id o hid).1) hb (fun id hid=>by unfold bq;rw [ae.gc,Vh (by omega),Vh (by omega)];exact ⟨rfl,rfl⟩)
  (fun id o g h1 h2 h3=>by
   rw [ae.gc] at h2;unfold bq at h3;split at h2
   .rename_i e;rw [Vn e] at h3;exact hnew g h3
   .have:=(h.young id o h2).1;omega) (VR _)
theorem th {id:Nat} {o o':aE} (hid:st.tab.get id=some o) (hsz:o'.sz=o.sz) (hs:w'.heap.size=w.heap.size) (hb:∀ k,aO (L id) ≠ some k -> w'.heap[k]? = w.heap[k]?):Fr cx w st.tab L st.next w' ((id,some o') :: st.tab) L st.next:=by
 have hget:∀ k ok,ae.get ((id,some o') :: st.tab) k=some ok -> ∃ ok',st.tab.get k=some ok' /\ ok.sz=ok'.sz:=fun k ok hk=>by
  rw [ae.gc] at hk;split at hk
  .rename_i e;cases hk;exact ⟨o,by rw [e];exact hid,hsz⟩
  .exact ⟨ok,hk,rfl⟩
 refine ⟨⟨fun b hb'=>hb b (hb'.2.2 id o hid),fun b hb'=>⟨by rw [hs];exact hb'.1,hb'.2.1,fun k ok hk=>?_⟩,fun k p _ hk=>?_⟩,by rw [hs];exact Os _,fun k hk hn=>hb k (hn id o hid),fun k ok g h1 h2 _=>?_,Os _⟩
 .obtain ⟨ok',h1,_⟩:=hget k ok hk;exact hb'.2.2 k ok' h1
 .unfold Kx at *
  cases ho:ae.get ((id,some o') :: st.tab) k with
  | none=>simp [ho] at hk
  | some ok=>
   obtain ⟨ok',h1,h2⟩:=hget k ok ho;rw [h1];simpa [ho,h2] using hk
 .obtain ⟨ok',h3,_⟩:=hget k ok h1;exact ⟨k,ok',h3,h2⟩
theorem Jv (h:aJ cx a w st L) {v v':Value} {oid:Option Nat} {ob:aE} (hg:w.grownBy w' v.ownBlock) (hv:aO v'=v.ownBlock \/ aO v'=some w.heap.size)
  (hown:∀ g,v.ownBlock=some g -> ∃ id,oid=some id /\ aO (L id)=some g) (hoid:∀ id,oid=some id -> ∃ o,st.tab.get id=some o):Fr cx w st.tab L st.next w' (bP st.tab st.next oid ob) (bq L st.next v') (st.next+1):=by
 have hnot:∀ k,(∀ id o,st.tab.get id=some o -> aO (L id) ≠ some k) -> some k ≠ v.ownBlock:=fun k hn e=>by
  obtain ⟨id,h1,h2⟩:=hown k e.symm;obtain ⟨o,h3⟩:=hoid id h1;exact hn id o h3 h2
 have hget:∀ k ok,(bP st.tab st.next oid ob).get k=some ok -> k=st.next \/ (k<st.next /\ st.tab.get k=some ok):=fun k ok hk=>by
  rw [bI] at hk;split at hk
  .exact .inl (by assumption)
  .split at hk
   .cases hk
   .exact .inr ⟨(h.young k ok hk).1,hk⟩
 refine ⟨⟨fun b hb=>hg.block b hb.1 (hnot b hb.2.2),fun b hb=>⟨Vm hb.1 hg.size,hb.2.1,fun k ok hk=>?_⟩,fun k p hlt hk=>?_⟩,hg.size,fun k hk hn=>hg.block k hk (hnot k hn),fun k ok g h1 h2 hlt=>?_,VR _⟩
 .unfold bq;rcases hget k ok hk with rfl|⟨hlt,ho⟩
  .rw [Vn rfl];rcases hv with hv|hv
   .rw [hv];exact fun e=>hnot b hb.2.2 e.symm
   .rw [hv];intro e;cases e;exact absurd hb.1 (by omega)
  .rw [Vh (by omega)];exact hb.2.2 k ok ho
 .unfold Kx bq at *;rw [Vh (by omega)] at hk
  cases ho:(bP st.tab st.next oid ob).get k with
  | none=>simp [ho] at hk
  | some ok=>
   rcases hget k ok ho with rfl|⟨_,h1⟩
   .omega
   .rw [h1];rw [ho] at hk;exact hk
 .unfold bq at h2;rcases hget k ok h1 with rfl|⟨hlt',ho⟩
  .rw [Vn rfl] at h2;rcases hv with hv|hv
   .rw [hv] at h2;obtain ⟨id,h3,h4⟩:=hown g h2;obtain ⟨o,h5⟩:=hoid id h3;exact ⟨id,o,h5,h4⟩
   .rw [hv] at h2;cases h2;omega
  .rw [Vh (by omega)] at h2;exact ⟨k,ok,ho,h2⟩
abbrev Bm (cx:Cx) (a:Act) (w:World) (st:aj) (L:Nat -> Value) (K:aj -> Prop):Act -> World -> Prop:=fun a' w'=>∃ st' L',K st' /\ aJ cx a' w' st' L' /\ Fr cx w st.tab L st.next w' st'.tab L' st'.next /\ a'.defers=a.defers
theorem bf (a:Act) (d:Option Nat) (v:Value):(a.put d v).defers=a.defers:=by cases d<;>rfl
theorem oB {o:Oper} {K:aj -> Prop} {Q:Exit -> Act -> World -> Prop} (h:aJ cx a w st L) (hp:ci P st.tab (bj st) o.op (aK st o.dst K)):o.wp P a w (Bm cx a w st L K) Q:=by
 obtain ⟨v,av,h1,h2,h3,h4,_⟩:=kS h.lay (fun id o hid=>(h.young id o hid).2) (am h) hp;exact aV (h4 w (Below.refl _ _)) ⟨_,L,h1,bl h h2 h3 o.dst,(by rw [bK,bH];exact Fr.refl),bf _ _ _⟩
def Kg (o:Oper):Bool:=match o.op with
 | .defer _=>false
 | _=>true
theorem sh {id:Nat} {o ob:aE} {v':Value} (h:aJ cx a w st L) (hid:st.tab.get id=some o) (hv:aO v'=aO (L id)):Fr cx w st.tab L st.next w (bP st.tab st.next (some id) ob) (bq L st.next v') (st.next+1):=by
 have hget:∀ k ok,(bP st.tab st.next (some id) ob).get k=some ok -> k=st.next \/ (k<st.next /\ st.tab.get k=some ok):=fun k ok hk=>by
  rw [bI] at hk;split at hk
  .exact .inl (by assumption)
  .split at hk
   .cases hk
   .exact .inr ⟨(h.young k ok hk).1,hk⟩
 refine ⟨⟨fun _ _=>rfl,fun b hb=>⟨hb.1,hb.2.1,fun k ok hk=>?_⟩,fun k p hlt hk=>?_⟩,Os _,fun _ _ _=>rfl,fun k ok g h1 h2 _=>?_,VR _⟩
 .unfold bq;rcases hget k ok hk with rfl|⟨hlt,ho⟩
  .rw [Vn rfl,hv];exact hb.2.2 id o hid
  .rw [Vh (by omega)];exact hb.2.2 k ok ho
 .unfold Kx bq at *;rw [Vh (by omega)] at hk
  cases ho:(bP st.tab st.next (some id) ob).get k with
  | none=>simp [ho] at hk
  | some ok=>
   rcases hget k ok ho with rfl|⟨_,h1⟩
   .omega
   .rw [h1];rw [ho] at hk;exact hk
 .unfold bq at h2;rcases hget k ok h1 with rfl|⟨hlt',ho⟩
  .rw [Vn rfl,hv] at h2;exact ⟨id,o,hid,h2⟩
  .rw [Vh (by omega)] at h2;exact ⟨k,ok,ho,h2⟩
theorem BX {t:TypeId} {x:Operand} {lo hi mx:Option Operand} {K:aj -> Prop} {Q:Exit -> Act -> World -> Prop} {ty:TypeId} {dst:Option Nat} {pos:String} {aft:Array Edge} {gd:Option (Nat × Bool)} (h:aJ cx a w st L)
  (hp:jx P t st (bj st x) (lo.map (bj st)) (hi.map (bj st)) (mx.map (bj st)) dst K):Oper.wp (P:=P) ⟨dst,.slice t x lo hi mx,ty,pos,aft,gd⟩ a w (Bm cx a w st L K) Q:=by
 unfold jx at hp;split at hp
 .rename_i id hx;have hv:=(am h x).1;rw [hx] at hv;split at hp
  .rename_i e sz rows hid;unfold oe at hp;split at hp
   .rename_i l h' hl hh;obtain ⟨⟨h1,h2⟩,⟨rfl,h4,h5,h6⟩,h7⟩:=hp;obtain ⟨hu,hsz⟩:=iW (P:=P) (t:=t) (by omega);have hvL:=hv.osl_inv _ _ (cQ hid);obtain ⟨hrow,xs,hown,hone,hx'⟩:=h.lay.objs id _ hid;have hs:=dA (P:=P) (t:=(bt P t).1) (by omega) w;rw [hsz,h1] at hs
    have key:∀ A cap,L id=.slice A rows.length cap -> rows.length<=cap -> ∃ m,h'.toNat<=m /\ m<=cap /\ (Instr.sliceBounds true rows.length cap (lo.map a.eval) (hi.map a.eval) (mx.map a.eval)).run P w=.ok (0,h'.toNat,m) w:=by
     intro A cap hL hc;have hlo:=qr (d:=0) (n:=0) (fun x=>(am h x).1) hl (by omega) rfl;have hhi:=qr (d:=rows.length) (n:=h'.toNat) (fun x=>(am h x).1) hh (by omega) rfl
     cases mx with
     | none=>exact ⟨cap,by omega,Os _,gS hlo hhi (.inl ⟨rfl,rfl⟩) (by omega) (by omega)⟩
     | some q=>
      have hq:=(am h q).1;simp only [VX] at h6 ⊢;unfold Gh at h6;split at h6
      .rename_i hq';cases hq'
      .rename_i k m hq'
       injection hq' with hq'
       rw [hq'] at hq;obtain ⟨rfl,hb⟩:=h6;refine ⟨m.toNat,Os _,by omega,gS hlo hhi (.inr ⟨rfl,⟨k,by rw [hq.c_inv,Int.toNat_of_nonneg h4]⟩,fun hn=>?_⟩) (by omega) (by omega)⟩
       cases hi with
       | none=>simp at hb
       | some _=>cases hn
      .exact h6.elim
    rcases hown.2 with ⟨hL,h0⟩|⟨g,cap,cur,hL,hb,hh',hc,hm,hcs,htake⟩
    .obtain ⟨m,hm1,hm2,hr⟩:=key none 0 (by rw [hL,h0]) (by omega);have hm0:m=0:=(by omega);have hn0:h'.toNat=0:=(by omega);refine aV (v:=.slice none 0 0) ?_ ⟨_,_,h7,li (n:=h'.toNat) h hid (by omega) (.inl ⟨hL,rfl⟩) dst,(by rw [bK,bH];exact sh h hid (by rw [hL])),bf _ _ _⟩;rw [h0] at hr;simp [execOp,Sem.run_bind,hvL,hL,Instr.sliceAt,Instr.slice,run_underlying hu,hr,hs,hm0,hn0]
    .obtain ⟨m,hm1,hm2,hr⟩:=key _ cap hL hc;refine aV (v:=.slice (some ⟨g,0,none⟩) h'.toNat m) ?_ ⟨_,_,h7,li (n:=h'.toNat) h hid (by omega) (.inr ⟨g,cap,m,hL,rfl,hm1,hm2⟩) dst,(by rw [bK,bH];exact sh h hid (by rw [hL];rfl)),bf _ _ _⟩;simp [execOp,Sem.run_bind,hvL,hL,Instr.sliceAt,Instr.slice,run_underlying hu,hr,hs,Addr.add_lit]
   .exact hp.elim
  .exact hp.elim
 .exact oB (o:=⟨dst,.slice t x lo hi mx,ty,pos,aft,gd⟩) h (by exact hp)
theorem BQ {o:Oper} {K:aj -> Prop} {Q:Exit -> Act -> World -> Prop} (h:aJ cx a w st L) (hp:jd P o K st) (hf:Kg o=true):o.wp P a w (Bm cx a w st L K) Q:=by
 obtain ⟨dst,op,ty,pos,aft,gd⟩:=o;unfold jd at hp;simp only at hp;split at hp
 .rename_i t x;obtain ⟨h1,h2⟩:=hp;have he:=am h x;obtain ⟨h3,h4⟩:=pU (P:=P) (t:=t) h he.1 he.2 h1 dst;exact aV (by simp [execOp,Sem.run_bind,h3]) ⟨_,_,h2,h4,(by rw [bK,bH];exact qb h ((Below.refl _ _).alloc (Os _) _) (fun g hg=>by simp [aO] at hg;omega)),bf _ _ _⟩
 .rename_i t;split at hp
  .rename_i z hz;obtain ⟨h1,h2⟩:=hp;obtain ⟨h3,h4⟩:=pU (P:=P) (t:=t) (av:=.c z) h (.tree (.c z)) trivial h1 dst;exact aV (by simp [execOp,Sem.run_bind,pB hz,h3]) ⟨_,_,h2,h4,(by rw [bK,bH];exact qb h ((Below.refl _ _).alloc (Os _) _) (fun g hg=>by simp [aO] at hg;omega)),bf _ _ _⟩
  .exact hp.elim
 .rename_i t p x;unfold pN at hp;split at hp
  .rename_i id i j hpe;split at hp
   .rename_i ty cells hid;obtain ⟨rfl,h0,h1,h2,h3,h4⟩:=hp;have hpv:=(am h p).1;rw [hpe] at hpv;have hx:=am h x;obtain ⟨w',h5,h6,h7,h8⟩:=kJ h hpv hid hx.1 hx.2 h0 h1 h2 h3 dst;exact eZ (by simp [execOp,Sem.run_bind,h5]) ⟨_,_,h4,h6,(by rw [bK,bH];exact th hid (by simp only [aE.sz,Vi,Vr,Wa];omega) h7 h8),bf _ _ _⟩
   .rename_i e sz rows hid;obtain ⟨hi,h0,h1,h2,h3,h3',h4⟩:=hp;have hpv:=(am h p).1;rw [hpe] at hpv;have hx:=am h x;obtain ⟨w',h5,h6,h7,h8⟩:=kN h hpv hid hx.1 hx.2 hi h0 h1 h2 h3 h3' dst;exact eZ (by simp [execOp,Sem.run_bind,h5]) ⟨_,_,h4,h6,(by rw [bK,bH];exact th hid rfl h7 h8),bf _ _ _⟩
   .rename_i e sz rows hid;obtain ⟨hi,h0,h1,h2,h3,h4⟩:=hp;have hpv:=(am h p).1;rw [hpe] at hpv;have hx:=am h x;obtain ⟨w',h5,h6,h7,h8⟩:=jI h hpv hid hx.1 hx.2 hi h0 h1 h2 h3 dst;exact eZ (by simp [execOp,Sem.run_bind,h5]) ⟨_,_,h4,h6,(by rw [bK,bH];exact th hid rfl h7 h8),bf _ _ _⟩
   .exact hp.elim
  .exact hp.elim
 .rename_i t n parts;unfold ez at hp;have hfr:=rm (cx:=cx) (w:=w) (L:=L) (st:=st) (gN (parts.toList.flatMap fun (p:Nat × Operand)=>ar (bj st p.2)))
  replace h:=f9 (gN (parts.toList.flatMap fun (p:Nat × Operand)=>ar (bj st p.2))) h
  unfold gu at hp;split at hp
  .rename_i e sz by_ ht;split at hp
   .obtain ⟨⟨h1,rfl,h3,h5⟩,h6⟩:=hp;obtain ⟨v',w',L',h7,h8,hb,rfl,hv⟩:=jK h ht h1 h3 h5 dst;refine aV ?_ ⟨_,_,h6,h8,(by rw [bK,bH];exact hfr.trans (qb h hb fun g hg=>by rw [hv] at hg;cases hg;exact Os _)),bf _ _ _⟩;simp only [W6] at h7;simp [execOp,Sem.run_bind];simp at h7;simp [h7]
   .obtain ⟨⟨h1,rfl,h3,h5⟩,h6⟩:=hp;obtain ⟨v',w',L',h7,h8,hb,rfl,hv⟩:=pP h ht h1 h3 h5 dst;refine aV ?_ ⟨_,_,h6,h8,(by rw [bK,bH];exact hfr.trans (qb h hb fun g hg=>by rw [hv] at hg;cases hg;exact Os _)),bf _ _ _⟩;simp only [W6] at h7;simp [execOp,Sem.run_bind];simp at h7;simp [h7]
  .exact hp.elim
 .rename_i t l c;unfold qH at hp;split at hp
  .rename_i e sz by_ k1 n k2 m ht hl hc;split at hp
   .rename_i z hz;obtain ⟨⟨rfl,h1,h2,h3,h4⟩,h5⟩:=hp;have hl':=(am h l).1;have hc':=(am h c).1;rw [hl] at hl';rw [hc] at hc';obtain ⟨v',w',L',h6,h7,hb,rfl,hv⟩:=wm (k1:=k1) (k2:=k2) h ht hz h1 h2 h3 h4 dst;exact aV (by simp [execOp,Sem.run_bind,hl'.c_inv,hc'.c_inv,h6]) ⟨_,_,h5,h7,(by rw [bK,bH];exact qb h hb fun g hg=>by rw [hv] at hg;cases hg;exact Os _),bf _ _ _⟩
   .exact hp.elim
  .exact hp.elim
 .rename_i t parts;obtain ⟨v,cs,h1,h2,h3,h4⟩:=lG h hp;refine aV ?_ ⟨_,_,h4,bl h h1 h2 dst,(by rw [bK,bH];exact Fr.refl),bf _ _ _⟩;simp [execOp,Sem.run_bind,h3 w]
 .rename_i t x lo hi mx;exact BX h hp
 .rename_i t r;obtain ⟨hr,hp⟩:=hp
  cases r with
  | some r=>cases hr
  | none=>
   obtain ⟨h1,h2⟩:=tQ (P:=P) (t:=t) h dst;exact aV (by simp [execOp,Sem.run_bind,h1]) ⟨_,_,hp,h2,(by rw [bK,bH];exact qb h ((Below.refl _ _).alloc (Os _) _) (fun g hg=>by simp [aO] at hg;omega)),bf _ _ _⟩
 .rename_i t m k ok;obtain ⟨r,av,h1,h2,h3,h4⟩:=pg (nx:=st.next) h.lay (am h m).1 (am h k).1 hp;exact aV (by simp [execOp,Sem.run_bind,h4]) ⟨_,_,h1,bl h h2 h3 dst,(by rw [bK,bH];exact Fr.refl),bf _ _ _⟩
 .rename_i t m k v;obtain ⟨w',st',h1,h2,h3,h4,id,ents,ents',_,h5,rfl,h6⟩:=qi h (am h m).1 (am h k).1 (am h v).1 dst hp;exact eZ (by simp [execOp,Sem.run_bind,h1]) ⟨_,_,h2,h3,(by rw [bK,bH];exact th h5 rfl h4 h6),bf _ _ _⟩
 .rename_i c;obtain ⟨callee,args,argTypes⟩:=c;simp only at hp;split at hp
  .split at hp
   .rename_i x y t t' h1 h2;obtain rfl:args = #[x,y]:=by cases args;simp_all
    obtain rfl:argTypes = #[t,t']:=by cases argTypes;simp_all
    obtain ⟨rfl,hp⟩:=hp;unfold jy at hp;split at hp
    .rename_i hnn;obtain ⟨e1,e2⟩:=nK hnn;have hx1:=(am h x).1;have hy1:=(am h y).1;rw [e1] at hx1;rw [e2] at hy1;have hx2:=hx1.c_inv;have hy2:=hy1.c_inv;have hr:=iT (ty:=ty) (w:=w) hp.1;exact aV (by simp [execOp,Sem.run_bind,resolve,invoke,builtin,hx2,hy2,hr]) ⟨_,_,hp.2,bl h (.tree (.c _)) trivial dst,(by rw [bK,bH];exact Fr.refl),bf _ _ _⟩
    unfold kb at hp;split at hp
    .rename_i e sz by_ ht;split at hp
     .rename_i oid rows rows2 hx hy;obtain ⟨⟨h3,h4⟩,h5⟩:=hp;obtain ⟨v',w',L',h6,h7,hg,rfl,hv,hown⟩:=qm (ty:=ty) h (am h x).1 (am h y).1 ht hx hy (by simpa [maxLen] using h3) h4 dst
      have hoid:∀ id,oid=some id -> ∃ o,st.tab.get id=some o:=fun id hid=>by
       subst hid;unfold vZ at hx;split at hx
       .rename_i id' hid';split at hx
        .rename_i e' sz' rows' hget;split at hx
         .cases hx;exact ⟨_,hget⟩
         .cases hx
        .cases hx
       .cases hx
       .cases hx
      exact aV (by simp [execOp,Sem.run_bind,resolve,invoke,builtin,h6]) ⟨_,_,h5,h7,(by rw [bK,bH];exact Jv h hg hv hown hoid),bf _ _ _⟩
     .split at hp
      .rename_i oid rows rows2 hx hy;obtain ⟨⟨h3,h4⟩,h5⟩:=hp;obtain ⟨v',w',L',h6,h7,hg,rfl,hv,hown⟩:=mZ (ty:=ty) h (am h x).1 (am h y).1 ht hx hy (by simpa [maxLen] using h3) h4 dst
       have hoid:∀ id,oid=some id -> ∃ o,st.tab.get id=some o:=fun id hid=>by
        subst hid;unfold lC at hx;split at hx
        .rename_i id' hid';split at hx
         .rename_i e' sz' rows' hget;split at hx
          .cases hx;exact ⟨_,hget⟩
          .cases hx
         .cases hx
        .cases hx
        .cases hx
       exact aV (by simp [execOp,Sem.run_bind,resolve,invoke,builtin,h6]) ⟨_,_,h5,h7,(by rw [bK,bH];exact Jv h hg hv hown hoid),bf _ _ _⟩
      .exact hp.elim
    .exact hp.elim
   .exact hp.elim
  .unfold xw at hp;split at hp
   .rename_i x t h1 h2;obtain rfl:args = #[x]:=by cases args;simp_all
    obtain rfl:argTypes = #[t]:=by cases argTypes;simp_all
    obtain ⟨w',st',h3,h4,h5,h6,id,ents,h7,rfl,h8⟩:=yR (ty:=ty) h (am h x).1 dst hp;exact aV (by simp [execOp,Sem.run_bind,resolve,invoke,builtin,h3]) ⟨_,_,h4,h5,(by rw [bK,bH];exact th h7 rfl h6 h8),bf _ _ _⟩
   .exact hp.elim
  .rcases hp with hp | hp
   .unfold CO at hp;split at hp
    .rename_i x t h1 h2;obtain rfl:args = #[x]:=by cases args;simp_all
     obtain rfl:argTypes = #[t]:=by cases argTypes;simp_all
     obtain ⟨r,av,h3,h4,h5,h6⟩:=DY (ty:=ty) (nx:=st.next) h.lay (am h x).1 hp;exact aV (by simp [execOp,Sem.run_bind,resolve,invoke,builtin,h6]) ⟨_,_,h3,bl h h4 h5 dst,(by rw [bK,bH];exact Fr.refl),bf _ _ _⟩
    .exact hp.elim
   .exact oB h hp
  .rename_i f;obtain ⟨g,zs,avs,hrun0,hsz,hlt,hp⟩:=AL h hp;by_cases hmeth:AR none P st g avs (uL dst K)
   .obtain ⟨hent,ids0,_,hc⟩:=wi h hsz (fun j v av h1 h2=>(hlt j v av h1 h2).1) hmeth dst;unfold Oper.wp;rw [hrun0 hent _ argTypes rfl];show Calls P g zs w _;refine hc.mono ?_;rintro e w' ⟨v,av,st',L',rfl,h1,h2,h3,_⟩;exact ⟨_,_,h1,h2,(by rw [bK,bH];exact h3),bf _ _ _⟩
   replace hp:pA P st g avs (uL dst K) \/ (none=(none:Option (Nat × List Nat)) /\ (DM P st g avs (uL dst K) \/ CY P st g avs (uL dst K))):=by
    rcases hp with hp|hp|hp
    .exact .inl hp
    .exact .inr hp
    .exact absurd hp hmeth
   have hent:fE P g:=by
    rcases hp with (⟨R,hd,_⟩|⟨hd,_⟩)|⟨_,(⟨_,_,_,_,_,_,_,_,hd,_⟩|⟨_,_,_,_,_,_,_,_,_,hd,_⟩|⟨hd,_⟩)|⟨_,(⟨R,hd,_⟩|⟨hd,_⟩)⟩⟩
    .exact hd.1
    .exact hd
    .exact hd.1
    .exact hd.1
    .exact hd
    .exact hd.1
    .exact hd
   unfold Oper.wp;rw [hrun0 hent _ argTypes rfl];show Calls P g zs w _;have hargs:zs.size=avs.length /\ ∀ (j:Nat) (v:Value) (av:AV),zs[j]? = some v -> avs[j]? = some av -> bN cx w st.tab L v av:=⟨hsz,fun j v av h1 h2=>(hlt j v av h1 h2).1⟩;rcases hp with hp|⟨_,hp|⟨ids,hp⟩⟩
   .refine (oj h hargs.1 hargs.2 hp dst).mono ?_;rintro e w' ⟨v,av,st',L',rfl,h1,h2,hb,hold,hnew,hnx⟩;exact ⟨_,_,h1,h2,(by rw [bK,bH];exact pc (fun id o hid=>(h.young id o hid).1) hb hold hnew hnx),bf _ _ _⟩
   rotate_left
   .obtain ⟨h3,h4⟩:=mH ids h hlt;have hz:=f9 ids h;refine (oj hz (by rw [h3];exact hargs.1) (fun j v av h5 h6=>(h4 j v av h5 h6).1) hp dst).mono ?_;rintro e w' ⟨v,av,st',L',rfl,h1,h2,hb,hold,hnew,hnx⟩;exact ⟨_,_,h1,h2,(by rw [bK,bH];exact (rm ids).trans (pc (fun id o hid=>(hz.young id o hid).1) hb hold hnew hnx)),bf _ _ _⟩
   .refine (Dp h hargs.1 hlt hp dst).mono ?_;rintro e w' ⟨v,av,st',L',rfl,h1,h2,h3⟩;exact ⟨_,_,h1,h2,(by rw [bK,bH];exact h3),bf _ _ _⟩
  .exact oB h hp
 .exact oB h hp
end
end
section
section
variable {P:Program} {cx:Cx} {a:Act} {w w':World} {st:aj} {L L':Nat -> Value} {l0 n:Nat}
theorem C8 {o:Oper} {next:Act -> World -> Prop} {Q:Exit -> Act -> World -> Prop} (hd:∀ c,o.op ≠ .defer c) (h:o.wp P a w next Q):o.wpIn (Fence.wide.inRound l0) n P a w next Q:=by
 refine ⟨fun _ _=>trivial,?_⟩;rw [Oper.semAt_eq _ _ _ hd];unfold Oper.wp at h;generalize (execOp a.eval o).run P w=r at h
 cases r with
 | ok x w1=>
  cases x with
  | value v=>exact h
  | skip=>exact h
  | defer d=>exact h
  | enter f args=>exact ⟨fun h=>(by cases h),CallsIn.inRound l0 (callsIn_wide.2 h)⟩
  | row row args=>
   refine ⟨fun h=>(by cases h),fun c cs _=>?_⟩;obtain ⟨v,w',h1,h2⟩:=h c cs;exact ⟨v,w',h1,by rw [fenced_inRound];exact stepsIn_wide.2 h2⟩
  | _=>exact h.elim
 | halt x w1=>
  cases x<;>first|exact h|exact h.elim
theorem Fu {o:Oper} (h:Kg o=true):∀ c,o.op ≠ .defer c:=fun c e=>by
 unfold Kg at h;rw [e] at h;cases h
theorem wH {ops:Array Oper} {K:aj -> Prop} {Q:Exit -> Act -> World -> Prop}:∀ (l:List Oper) (a:Act) (w:World) (st:aj) (L:Nat -> Value),(∀ o ∈ l,Kg o=true) ->
  (∀ a' w' st' L',K st' -> aJ cx a' w' st' L' -> Fr cx w st.tab L st.next w' st'.tab L' st'.next -> Q .normal a' w') -> aJ cx a w st L -> lx P ops K l st -> wpListIn (Fence.wide.inRound l0) n P ops Q l a w
 | [],a,w,st,L,_,hQ,h,hp=>hQ a w st L hp h Fr.refl
 | o :: rest,a,w,st,L,hf,hQ,h,hp=>by
  unfold lx at hp;have hfo:=hf o (V1 ..);refine wpListIn_step fun K' hK'=>?_;rcases cz h hp o rfl with ⟨hw,st',h1,h2,e1,e2⟩|⟨hw,st',h1,h2,e1,e2⟩
  .rw [Vn hw];refine C8 (Fu hfo) (Oper.wp_mono (fun a' w' ⟨st'',L',h3,h4,h5,_⟩=>hK' a' w' (wH rest a' w' st'' L' (fun o ho=>hf o (VT _ ho)) (fun a2 w2 st2 L2 h6 h7 h8=>hQ a2 w2 st2 L2 h6 h7 ?_) h4 h3)) (BQ h2 h1 hfo));rw [e1,e2] at h5;exact h5.trans h8
  .rw [Vh (by simp [hw])];refine ⟨fun _ _=>trivial,hK' _ _ (wH rest _ w _ L (fun o ho=>hf o (VT _ ho)) (fun a2 w2 st2 L2 h6 h7 h8=>hQ a2 w2 st2 L2 h6 h7 ?_) (bZ h2 o.dst) h1)⟩;rw [bK,bH,e1,e2] at h8;exact h8
def jq:Code -> Bool
 | .skip=>true
 | .region _ ops draw=>!draw && ops.toList.all Kg
 | .seq x y=>jq x && jq y
 | .cond _ x y=>jq x && jq y
 | .block _ x=>jq x
 | .exit _=>true
 | .ret=>true
 | _=>false
theorem yM:∀ (c:Code),jq c=true -> ∀ (Q:Exit -> aj -> Prop) (a:Act) (w:World) (st:aj) (L:Nat -> Value),aJ cx a w st L -> bB P c Q st ->
  c.wpIn (Fence.wide.inRound l0) n P (fun e a' w'=>∃ st' L',Q e st' /\ aJ cx a' w' st' L' /\ Fr cx w st.tab L st.next w' st'.tab L' st'.next) a w:=by
 intro c
 induction c with
 | skip=>exact fun _ Q a w st L h hp=>wpIn_skip ⟨st,L,hp,h,Fr.refl⟩
 | region id ops draw=>
  intro hf Q a w st L h hp;unfold bB Et at hp
  cases draw with
  | false=>
   simp only [jq,W7,V4,Xj] at hf;exact wpIn_region_list (wH _ a w st L hf (fun a' w' st' L' h1 h2 h3=>⟨st',L',h1,h2,h3⟩) h (by simpa using hp))
  | true=>cases hf
 | seq x y ihx ihy=>
  intro hf Q a w st L h hp;simp only [jq,Vw] at hf;unfold bB at hp;refine wpIn_seq (wpIn_mono (ihx hf.1 _ a w st L h hp) (fun e a' w' ⟨st',L',h1,h2,h3⟩=>?_))
  cases e with
  | normal=>exact wpIn_mono (ihy hf.2 Q a' w' st' L' h2 h1) fun e a2 w2 ⟨st2,L2,h4,h5,h6⟩=>⟨st2,L2,h4,h5,h3.trans h6⟩
  | _=>exact ⟨st',L',h1,h2,h3⟩
 | cond c x y ihx ihy=>
  intro hf Q a w st L h hp;simp only [jq,Vw] at hf;unfold bB n8 at hp;split at hp
  .rename_i b hb;have hv:=(am h c).1;rw [hb] at hv;have hv:=hv.c_inv;cases b
   .exact wpIn_cond_false hv (ihy hf.2 Q a w st L h hp)
   .exact wpIn_cond_true hv (ihx hf.1 Q a w st L h hp)
  .exact hp.elim
 | block id x ih=>
  intro hf Q a w st L h hp;simp only [jq] at hf;unfold bB at hp;refine wpIn_block (wpIn_mono (ih hf _ a w st L h hp) (fun e a' w' ⟨st',L',h1,h2,h3⟩=>?_))
  cases e with
  | exit id'=>
   simp only [ip,Exit.inBlock] at h1 ⊢;split
   .rename_i e;rw [Vn e] at h1;exact ⟨st',L',h1,h2,h3⟩
   .rename_i e;rw [Vh e] at h1;exact ⟨st',L',h1,h2,h3⟩
  | _=>exact ⟨st',L',h1,h2,h3⟩
 | exit id=>exact fun _ Q a w st L h hp=>wpIn_exit ⟨st,L,hp,h,Fr.refl⟩
 | ret=>exact fun _ Q a w st L h hp=>wpIn_ret ⟨st,L,hp,h,Fr.refl⟩
 | _=>exact fun hf=>(by cases hf)
def p9 (T:Nat -> Prop) (w w':World) (b:Nat):Prop:=T b \/ (w.heap.size<=b /\ b<w'.heap.size)
structure xT (T:Nat -> Prop) (w w':World):Prop where
 os:w'.os=w.os
 tape:w'.tape=w.tape
 output:w'.output=w.output
 size:w.heap.size<=w'.heap.size
 block:∀ b,T b -> w'.heap[b]? = w.heap[b]?
def Ss (P:Program) (gf:FuncId) (caps:List AV) (xs:List (List AV)):Prop:=
 fE P gf /\ ∀ (l:Nat) (T0:Nat -> Prop) (lb:Array Value) (W0:World) (J Jx:List (List AV) -> (Nat -> Prop) -> (Nat -> Prop) -> World -> Prop),lb.size=caps.length -> Es W0 T0 ->
  (∀ (j:Nat) (v:Value) (av:AV),lb[j]? = some v -> caps[j]? = some av -> RT W0 T0 v av) ->
  (∀ pre T M W,J pre T M W -> ∀ b,T b -> b<W.heap.size) ->
  (∀ pre T M M' W W',J pre T M W -> cg M W.heap.size W W' -> (∀ b,M' b -> M b \/ (W.heap.size<=b /\ b<W'.heap.size)) -> J pre (p9 T W W') M' W') ->
  (∀ pre T M M' W W',Jx pre T M W -> cg M W.heap.size W W' -> (∀ b,M' b -> M b \/ (W.heap.size<=b /\ b<W'.heap.size)) -> Jx pre (p9 T W W') M' W') ->
  (∀ pre x T M W (vs:Array Value),J pre T M W -> (pre ++ [x]) <+: xs -> vs.size=x.length -> (∀ (j:Nat) (v:Value) (av:AV),vs[j]? = some v -> x[j]? = some av -> RT W (fun b=>T b /\ ¬ M b) v av) ->
   YieldAt Fence.wide 0 P l vs W fun e W'=>(e=.returned (.bool true) /\ J (pre ++ [x]) T M W' /\ xT T W W') \/ (e=.returned (.bool false) /\ Jx (pre ++ [x]) T M W' /\ xT T W W')) ->
  J [] T0 (fun _=>False) W0 ->
  CallsIn Fence.wide 0 P gf (#[.func (.yield l) #[] #[]] ++ lb) W0 fun e W'=>(∃ v,e=.returned v) /\ ((∃ T M,J xs T M W') \/ ∃ pre T M,pre <+: xs /\ Jx pre T M W')
theorem mE {c c':Cx} (h:aJ c a w st L) (hw:c'.w0=c.w0) (hblk:∀ b,Sx c w st.tab L b -> w'.heap[b]? = w.heap[b]?) (hown:∀ id o g,st.tab.get id=some o -> aO (L id)=some g -> w'.heap[g]? = w.heap[g]?) (hS:∀ b,Sx c w st.tab L b -> Sx c' w' st.tab L b)
  (hb:cg c'.X c'.w0.heap.size c'.w0 w') (hex:∀ b,c'.X b -> b<w'.heap.size /\ ∀ id o,st.tab.get id=some o -> aO (L id) ≠ some b):aJ c' a w' st L:=by
 have hrv:∀ {x av nx},bN c w st.tab L x av -> av.lt nx -> bN c' w' st.tab L x av:=fun hr hl=>hr.mono hl (fun p hp=>World.cell?_of_block (hblk _ hp)) hS (fun _ _ _ h=>h);refine ⟨⟨hb,fun id o hid=>?_,h.lay.sep,hex⟩,h.size,by rw [hw];exact h.defers.mono hblk hS,h.young,fun t=>⟨hrv (h.env t).1 (h.env t).2,(h.env t).2⟩⟩;have ho:=h.lay.objs id o hid;have hy:=(h.young id o hid).2
 cases o with
 | box t cells=>
  obtain ⟨g,cs,h1,h2,h3,h4,h5⟩:=ho;exact ⟨g,cs,h1,by rw [hw];exact h2,(hown id _ g hid (by rw [h1];rfl)).trans h3,h4,fun j x av h6 h7=>⟨hrv (h5 j x av h6 h7).1 (ak.1 hy _ (p0 h7)),(h5 j x av h6 h7).2⟩⟩
 | row e sz rows=>
  obtain ⟨h1,xs,hown',h2,h3⟩:=ho;refine ⟨h1,xs,⟨hown'.1,?_⟩,h2,fun i j row av ha hb=>?_⟩
  .rcases hown'.2 with hn | ⟨g,cap,cur,h4,hb,hh,rest⟩
   .exact .inl hn
   .exact .inr ⟨g,cap,cur,h4,by rw [hw];exact hb,(hown id _ g hid (by rw [h4];rfl)).trans hh,rest⟩
  .obtain ⟨x,hx,hr⟩:=h3 i j row av ha hb;exact ⟨x,hx,hr.mono (fun p hp=>World.cell?_of_block (hblk _ hp)) hS⟩
 | nest e sz rows=>
  obtain ⟨h1,xs,hown',h2,h3⟩:=ho;refine ⟨h1,xs,⟨hown'.1,?_⟩,h2,fun i j row av ha hb=>?_⟩
  .rcases hown'.2 with hn | ⟨g,cap,cur,h4,hb,hh,rest⟩
   .exact .inl hn
   .exact .inr ⟨g,cap,cur,h4,by rw [hw];exact hb,(hown id _ g hid (by rw [h4];rfl)).trans hh,rest⟩
  .obtain ⟨x,hx,hr⟩:=h3 i j row av ha hb;exact ⟨x,hx,hrv hr (ak.1 (hy row (p0 ha)) _ (p0 hb))⟩
 | map ents=>
  obtain ⟨b,es,ck,h1,h2,h3,h4⟩:=ho;exact ⟨b,es,ck,h1,by rw [hw];exact h2,(hown id _ b hid (by rw [h1];rfl)).trans h3,h4⟩
 | ghost vs env=>exact ⟨ho.1,fun t ht=>hrv (ho.2 t ht) (fU hy t)⟩
def Cx.ex (c:Cx) (M:Nat -> Prop) (hM:∀ b,M b -> c.w0.heap.size<=b):Cx:=⟨c.F,c.w0,fun b=>c.X b \/ M b,c.amb,fun b h=>h.elim (c.exD b) fun h2=>Vz c.amb.le (hM b h2),c.inF⟩
def Oh (cx:Cx) (a0:Act) (l:Nat) (r:Loop) (I:aj -> Prop) (T M:Nat -> Prop) (W:World):Prop:=
 ∃ (hqq:∀ b,M b -> cx.w0.heap.size<=b) (st:aj) (L:Nat -> Value),I st /\ aJ (cx.ex M hqq) a0 W st L /\ W.heap[l]? = some (.loop r) /\ Sx (cx.ex M hqq) W st.tab L l /\ ¬ T l /\ (∀ b,M b -> T b /\ cx.w0.heap.size<=b) /\ ∀ b,T b -> Sx cx W st.tab L b
theorem Ie (h:aJ cx a w st L) (hb:w.heap.size<=w'.heap.size) {b:Nat} (hs:Sx cx w st.tab L b):Sx cx w' st.tab L b:=⟨Vm hs.1 hb,hs.2.1,hs.2.2⟩
theorem Bj (h:aJ cx a w st L) {b:Nat} (h1:w.heap.size<=b) (h2:b<w'.heap.size):Sx cx w' st.tab L b:=
 ⟨h2,⟨.inr (Vz h.lay.below.size h1),fun hX=>absurd (h.lay.ex b hX).1 (Nat.not_lt.2 h1)⟩,fun id o hid hg=>absurd ((h.lay.objs id o hid).ge hg).2 (by omega)⟩
theorem Oh.step {a0:Act} {l:Nat} {r:Loop} {I:aj -> Prop} {T M M':Nat -> Prop} (h:Oh cx a0 l r I T M w) (hb:cg M w.heap.size w w') (hM:∀ b,M' b -> M b \/ (w.heap.size<=b /\ b<w'.heap.size)):Oh cx a0 l r I (p9 T w w') M' w':=by
 obtain ⟨hqq,st,L,h1,h2,h3,h4,h5,h6,h7⟩:=h;have hsz:cx.w0.heap.size<=w.heap.size:=h2.lay.below.size;have hq':∀ b,M' b -> cx.w0.heap.size<=b:=fun b hb2=>(hM b hb2).elim (hqq b) fun h8=>Vz hsz h8.1
 have hS:∀ b,Sx (cx.ex M hqq) w st.tab L b -> Sx (cx.ex M' hq') w' st.tab L b:=fun b hs=>⟨Vm hs.1 hb.size,⟨hs.2.1.1,fun hx=>by
  rcases hx with hx|hx
  .exact hs.2.1.2 (.inl hx)
  .rcases hM b hx with hm | hm
   .exact hs.2.1.2 (.inr hm)
   .have:=hs.1;omega⟩,hs.2.2⟩
 have hblk:∀ b,Sx (cx.ex M hqq) w st.tab L b -> w'.heap[b]? = w.heap[b]?:=fun b hs=>hb.block b hs.1 fun hm=>hs.2.1.2 (.inr hm)
 have hex:∀ b,(cx.ex M' hq').X b -> b<w'.heap.size /\ ∀ id o,st.tab.get id=some o -> aO (L id) ≠ some b:=fun b hx=>by
  have old:(cx.ex M hqq).X b -> b<w'.heap.size /\ ∀ id o,st.tab.get id=some o -> aO (L id) ≠ some b:=fun hx=>⟨Vm (h2.lay.ex b hx).1 hb.size,(h2.lay.ex b hx).2⟩;rcases hx with hx|hx
  .exact old (.inl hx)
  .rcases hM b hx with hm | hm
   .exact old (.inr hm)
   .exact ⟨hm.2,fun id o hid hg=>absurd ((h2.lay.objs id o hid).ge hg).2 (by omega)⟩
 have hbel:cg (cx.ex M' hq').X (cx.ex M' hq').w0.heap.size (cx.ex M' hq').w0 w':=by
  have h8:cg (cx.ex M hqq).X cx.w0.heap.size cx.w0 w:=h2.lay.below;refine ⟨hb.os.trans h8.os,hb.tape.trans h8.tape,hb.output.trans h8.output,Vz h8.size hb.size,fun k (hk:k<cx.w0.heap.size) hx=>?_⟩
  have hm:¬ M k:=fun hm=>by
   have:=(h6 k hm).2;omega
  refine (hb.block k (by omega) hm).trans (h8.block k hk fun hx'=>?_);rcases hx' with hx'|hx'
  .exact hx (.inl hx')
  .exact hm hx'
 refine ⟨hq',st,L,h1,mE h2 rfl hblk (fun id o g hid hg=>hb.block g ((h2.lay.objs id o hid).ge hg).2 fun hm=>(h2.lay.ex g (.inr hm)).2 id o hid hg) hS hbel hex,(hblk l h4).trans h3,hS l h4,fun hg=>?_,fun b hm=>?_,fun b hg=>?_⟩
 .rcases hg with hg | hg
  .exact h5 hg
  .have:=h4.1;omega
 .rcases hM b hm with hm | hm
  .exact ⟨.inl (h6 b hm).1,(h6 b hm).2⟩
  .exact ⟨.inr hm,by omega⟩
 .rcases hg with hg | hg
  .exact ⟨Vm (h7 b hg).1 hb.size,(h7 b hg).2.1,(h7 b hg).2.2⟩
  .have:=Bj h2 hg.1 hg.2;exact ⟨this.1,⟨this.2.1.1,fun hx=>this.2.1.2 (.inl hx)⟩,this.2.2⟩
theorem qV {A a1:Act} {st1 ly:aj} {LA:Nat -> Value} (h:aJ cx A w st1 L) (hf:Fr cx w st1.tab L st1.next w' ly.tab LA ly.next) (hA:aJ cx a1 w' ly LA):aJ cx A w' ⟨st1.n,st1.env,ly.tab,ly.next⟩ LA:=
 ⟨hA.lay,h.size,h.defers.mono hf.ext.blk hf.ext.sub,hA.young,fun t=>⟨hf.ext.rv (h.env t).1 (h.env t).2,AV.lt_mono hf.next (h.env t).2⟩⟩
theorem jS {l:Nat} {r:Loop} (h:aJ cx a w st L) (hb:cx.w0.heap.size<=l) (hl:w.heap[l]? = some (.loop r)) (r':Loop):aJ cx a (w.putObj l (.loop r')) st L:=by
 have:=uz h (iz.turn hb hl r') (ds:=a.defers) ⟨h.defers.1,fun d hd=>?_⟩
 .exact this
 .obtain ⟨k,h1,h2,h3,h4⟩:=h.defers.2 d hd;have hne:k ≠ l:=fun e=>by rw [e,hl] at h3;cases h3
  exact ⟨k,h1,h2,(World.putObj_heap_other hne).trans h3,⟨by simp;exact h4.1,h4.2.1,h4.2.2⟩⟩
def jJ:List (Nat × AV) -> aj -> aj
 | [],st=>st
 | (p,av) :: l,st=>jJ l (st.put (some p) av)
theorem sr:∀ (l:List (Nat × AV)) (st:aj),(jJ l st).tab=st.tab /\ (jJ l st).next=st.next /\ (jJ l st).n=st.n
 | [],_=>⟨rfl,rfl,rfl⟩
 | (p,av) :: l,st=>sr l (st.put (some p) av)
theorem qv:∀ (ps:List Nat) (vs:List Value) (x:List AV) {t:Array Value} {st:aj},aJ cx { tmps:=t,defers:=[] } w st L -> vs.length=ps.length -> x.length=ps.length ->
  (∀ (j:Nat) (v:Value) (av:AV),vs[j]? = some v -> x[j]? = some av -> bN cx w st.tab L v av /\ av.lt st.next) ->
  aJ cx { tmps:=(ps.zip vs).foldl (fun t (p:Nat × Value)=>t.setIfInBounds p.1 p.2) t,defers:=[] } w (jJ (ps.zip x) st) L
 | [],_,_,_,_,h,_,_,_=>h
 | p :: ps,[],_,_,_,_,h1,_,_=>by simp at h1
 | p :: ps,v :: vs,[],_,_,_,_,h2,_=>by simp at h2
 | p :: ps,v :: vs,av :: x,t,st,h,h1,h2,h3=>by
  have h4:=h3 0 v av rfl rfl;have h5:=bl h h4.1 h4.2 (some p);exact qv ps vs x (t:=t.setIfInBounds p v) (st:=st.put (some p) av) h5 (by simpa using h1) (by simpa using h2) fun j v' av' h6 h7=>h3 (j+1) v' av' (by simpa using h6) (by simpa using h7)
def Mr (I:List (List AV) -> aj -> Prop) (Ix:Code -> List (List AV) -> aj -> Prop) (pre:List (List AV)) (st1:aj):Exit -> aj -> Prop
 | .normal,st'=>L5 (I pre) ⟨st1.n,st1.env,st'.tab,st'.next⟩
 | .ret,st'=>L5 (Ix .ret pre) ⟨st1.n,st1.env,st'.tab,st'.next⟩
 | .exit id,st'=>L5 (Ix (.exit id) pre) ⟨st1.n,st1.env,st'.tab,st'.next⟩
 | _,_=>False
def Pb:Exit -> aj -> Prop:=fun _ _=>False
theorem yJ {a0:Act} {l fn D:Nat} {T M:Nat -> Prop} {ps:Array Tmp} {assign body:Code} {I:List (List AV) -> aj -> Prop} {Ix:Code -> List (List AV) -> aj -> Prop} {pre:List (List AV)} {x:List AV} {vs:Array Value}
  (hfa:jq assign=true) (hfb:jq body=true) (hn:x.length=ps.size) (hb:cx.w0.heap.size<=l)
  (hr:∀ st1,I pre st1 -> bB P assign (lO (bB P body (Mr I Ix (pre ++ [x]) st1)) Pb) (jJ (ps.toList.zip x) st1))
  (h:Oh cx a0 l { state:=.ready,pending:=none,fn,tmps:=a0.tmps,params:=ps,assign,body,defers:=D } (I pre) T M w) (hv:vs.size=x.length) (hrt:∀ (j:Nat) (v:Value) (av:AV),vs[j]? = some v -> x[j]? = some av -> RT w (fun b=>T b /\ ¬ M b) v av) :
  YieldAt Fence.wide 0 P l vs w fun e W'=>(e=.returned (.bool true) /\ Oh cx a0 l { state:=.ready,pending:=none,fn,tmps:=a0.tmps,params:=ps,assign,body,defers:=D } (I (pre ++ [x])) T M W' /\ xT T w W') \/
   (e=.returned (.bool false) /\ (∃ c,Oh cx a0 l { state:=.done,pending:=some c,fn,tmps:=a0.tmps,params:=ps,assign,body,defers:=D } (Ix c (pre ++ [x])) T M W') /\ xT T w W'):=by
 obtain ⟨hqq,st1,L,hI,hC,hl,hSl,hTl,hMT,hT⟩:=h;have hb:(cx.ex M hqq).w0.heap.size<=l:=hb;have hy:=run_yield (P:=P) (args:=vs) hl (by simp;omega);refine ⟨fn,_,assign,body,hy,roundIn_of_wpIn trivial ?_⟩;have hC0:aJ (cx.ex M hqq) { tmps:=a0.tmps,defers:=[] } w st1 L:=⟨hC.lay,hC.size,jt.nil _ _ _,hC.young,hC.env⟩
 have hTS:∀ b,T b /\ ¬ M b -> Sx (cx.ex M hqq) w st1.tab L b:=fun b hb'=>⟨(hT b hb'.1).1,⟨(hT b hb'.1).2.1.1,fun hx=>by
  rcases hx with hx|hx
  .exact (hT b hb'.1).2.1.2 hx
  .exact hb'.2 hx⟩,(hT b hb'.1).2.2⟩
 have hCp:=qv ps.toList vs.toList x hC0 (by simp;omega) (by simpa using hn) fun j v av h1 h2=>by
  have:=hrt j v av (by simpa using h1) h2;exact ⟨.tree (this.mono (fun _ _=>rfl) hTS),this.lt _⟩
 have ef:(ps.zip vs).foldl (fun tmps (x:Tmp × Value)=>match x with | (t,a)=>tmps.setIfInBounds t a) a0.tmps=(ps.toList.zip vs.toList).foldl (fun t (p:Nat × Value)=>t.setIfInBounds p.1 p.2) a0.tmps:=by
  rw [<- Array.foldl_toList,Array.toList_zip]
 rw [ef];obtain ⟨e1,e2,_⟩:=sr (ps.toList.zip x) st1;refine wpIn_mono (yM assign hfa _ _ _ _ _ hCp (hr st1 hI)) fun e a1 w1 ⟨ly,LA,hq,hCA,hFA⟩=>?_;rw [e1,e2] at hFA
 cases e with
 | normal=>
  have hl1:w1.heap[l]? = _:=(hFA.keep l hSl.1 hSl.2.2).trans hl;have hSl1:=hFA.ext.sub l hSl;refine ⟨_,run_beginRound hl1 rfl,?_⟩;have hCA2:=jS hCA hb hl1 { state:=.busy,pending:=none,fn,tmps:=a0.tmps,params:=ps,assign,body,defers:=D };have hF1:=qV hC hFA hCA;have hF2:=jS hF1 hb hl1 { state:=.busy,pending:=none,fn,tmps:=a0.tmps,params:=ps,assign,body,defers:=D };have hos2:∀ o,(w1.putObj l o).os=w1.os /\ (w1.putObj l o).tape=w1.tape /\ (w1.putObj l o).output=w1.output:=fun o=>⟨rfl,rfl,rfl⟩;generalize hw2:w1.putObj l (.loop { state:=.busy,pending:=none,fn,tmps:=a0.tmps,params:=ps,assign,body,defers:=D })=w2 at hCA2 hF2;have hsz2:w2.heap.size=w1.heap.size:=by rw [<- hw2];simp
  have hl2:w2.heap[l]? = some (.loop { state:=.busy,pending:=none,fn,tmps:=a0.tmps,params:=ps,assign,body,defers:=D }):=by rw [<- hw2];exact World.putObj_heap_same hSl1.1
  have hoth2:∀ b,b ≠ l -> w2.heap[b]? = w1.heap[b]?:=fun b hb'=>by rw [<- hw2];exact World.putObj_heap_other hb'
  have hS2:∀ b,Sx (cx.ex M hqq) w1 ly.tab LA b -> Sx (cx.ex M hqq) w2 ly.tab LA b:=fun b hs=>⟨by rw [hsz2];exact hs.1,hs.2.1,hs.2.2⟩;refine wpIn_mono (yM body hfb _ _ _ _ _ hCA2 hq) fun e a2 w3 ⟨stB,LB,hq2,hCB,hFB⟩=>?_;have hl3:w3.heap[l]? = _:=(hFB.keep l (hS2 l hSl1).1 (hS2 l hSl1).2.2).trans hl2;have hSl3:=hFB.ext.sub l (hS2 l hSl1);have hF3:=qV (st1:=⟨st1.n,st1.env,ly.tab,ly.next⟩) hF2 hFB hCB
  have hown2:∀ b,T b -> ∀ id o,ly.tab.get id=some o -> aO (LA id) ≠ some b:=fun b hb' id o hid hg=>by
   obtain ⟨id2,o2,h3,h4⟩:=hFA.young id o b hid hg (hT b hb').1;exact (hT b hb').2.2 id2 o2 h3 h4
  have hkeep:∀ b,T b -> w3.heap[b]? = w.heap[b]?:=fun b hb'=>by
   have hbl:b ≠ l:=fun e=>hTl (by rw [<- e];exact hb');have h1:=(hT b hb').1;have h2:=hFA.size;rw [hFB.keep b (by omega) (hown2 b hb'),hoth2 b hbl,hFA.keep b h1 (hT b hb').2.2]
  have fin:∀ (jump:Option Code) (s:LoopState) (K:aj -> Prop),(if jump.isNone then LoopState.ready else LoopState.done)=s -> L5 K ⟨st1.n,st1.env,stB.tab,stB.next⟩ ->
    (Instr.endRound l jump).run P w3=.ok (.bool jump.isNone) (w3.putObj l (.loop { state:=s,pending:=jump,fn,tmps:=a0.tmps,params:=ps,assign,body,defers:=D })) /\
    Oh cx a0 l { state:=s,pending:=jump,fn,tmps:=a0.tmps,params:=ps,assign,body,defers:=D } K T M (w3.putObj l (.loop { state:=s,pending:=jump,fn,tmps:=a0.tmps,params:=ps,assign,body,defers:=D })) /\
    xT T w (w3.putObj l (.loop { state:=s,pending:=jump,fn,tmps:=a0.tmps,params:=ps,assign,body,defers:=D })):=fun jump s K hs hK=>by
   subst hs;have hr3:=run_endRound (P:=P) jump hl3;refine ⟨hr3,?_,?_⟩
   .obtain ⟨stC,hweak,hKC⟩:=hK;have hF4:=jS hF3 hb hl3 { state:=if jump.isNone then .ready else .done,pending:=jump,fn,tmps:=a0.tmps,params:=ps,assign,body,defers:=D };obtain ⟨LC,hCC,hSC⟩:=hweak _ _ _ _ hF4;have up:∀ b,Sx (cx.ex M hqq) w3 stB.tab LB b -> Sx (cx.ex M hqq) (w3.putObj l (.loop { state:=if jump.isNone then .ready else .done,pending:=jump,fn,tmps:=a0.tmps,params:=ps,assign,body,defers:=D })) stC.tab LC b:=fun b hs=>hSC b ⟨by simp;exact hs.1,hs.2.1,hs.2.2⟩;refine ⟨hqq,stC,LC,hKC,hCC,World.putObj_heap_same hSl3.1,up l hSl3,hTl,hMT,fun b hb'=>?_⟩;by_cases hm:M b
    .refine ⟨(hCC.lay.ex b (.inr hm)).1,(hT b hb').2.1,(hCC.lay.ex b (.inr hm)).2⟩
    .have:=up b (hFB.ext.sub b (hS2 b (hFA.ext.sub b (hTS b ⟨hb',hm⟩))));exact ⟨this.1,(hT b hb').2.1,this.2.2⟩
   .have hW:cg (cx.ex M hqq).X (cx.ex M hqq).w0.heap.size (cx.ex M hqq).w0 w:=hC.lay.below;have hW3:cg (cx.ex M hqq).X (cx.ex M hqq).w0.heap.size (cx.ex M hqq).w0 w3:=hCB.lay.below;refine ⟨hW3.os.trans hW.os.symm,hW3.tape.trans hW.tape.symm,hW3.output.trans hW.output.symm,?_,fun b hb'=>?_⟩
    .have:=hFA.size;have:=hFB.size;simp;omega
    .have hbl:b ≠ l:=fun e=>hTl (by rw [<- e];exact hb');rw [World.putObj_heap_other hbl];exact hkeep b hb'
  cases e with
  | normal=>
   obtain ⟨h1,h2,h3⟩:=fin none .ready _ rfl hq2;exact ⟨_,_,h1,.inl ⟨rfl,h2,h3⟩⟩
  | ret=>
   obtain ⟨h1,h2,h3⟩:=fin (some .ret) .done _ rfl hq2;exact ⟨_,_,h1,.inr ⟨rfl,⟨_,h2⟩,h3⟩⟩
  | exit id=>
   obtain ⟨h1,h2,h3⟩:=fin (some (.exit id)) .done _ rfl hq2;exact ⟨_,_,h1,.inr ⟨rfl,⟨_,h2⟩,h3⟩⟩
  | goto t=>exact hq2.elim
  | panic c=>exact hq2.elim
  | outgrown=>exact hq2.elim
 | _=>exact hq.elim
theorem Aj (hm:P.follows .mixedOrders=true) {g:Operand} {ps:Array Tmp} {assign body:Code} {Q:Exit -> aj -> Prop} {gf:FuncId} {caps:List AV} {xs:List (List AV)}
  (I:List (List AV) -> aj -> Prop) (Ix:Code -> List (List AV) -> aj -> Prop)
  (hg:G9 (bj st g) fun g' cs=>g'=gf /\ cs=caps) (ht:aM caps) (hseq:Ss P gf caps xs) (hx:∀ x ∈ xs,x.length=ps.size) (hfa:jq assign=true) (hfb:jq body=true)
  (h0:L5 (I []) st)
  (hr:∀ pre x st1,(pre ++ [x]) <+: xs -> I pre st1 -> bB P assign (lO (bB P body (Mr I Ix (pre ++ [x]) st1)) Pb) (jJ (ps.toList.zip x) st1))
  (hd:∀ st',I xs st' -> Q .normal st') (hs:∀ c pre st',pre <+: xs -> Ix c pre st' -> bB P c Q st'):bB P (.rangeFunc g ps assign body) Q st:=by
 intro cx a w L h;obtain ⟨gf',lb,cs,hgv,hlb,hcap,⟨rfl,rfl⟩,_⟩:=rl (am h g).1 (am h g).2 hg;refine wpIn_wide.1 (wpIn_rangeFunc (n:=0) ?_);intro fn _;have hbase:cx.w0.heap.size<=w.heap.size:=h.lay.below.size;generalize hrec:({ state:=.ready,pending:=none,fn,tmps:=a.tmps,params:=ps,assign,body,defers:=w.heap.size }:Loop)=r;generalize hW1:(w.alloc (.deferred (some []))).alloc (.loop r)=W1
 have hb01:Below w.heap.size w W1:=by
  rw [<- hW1];exact ((Below.refl _ w).alloc (Os _) _).alloc (by simp) _
 have hs1:W1.heap.size=w.heap.size+2:=by rw [<- hW1];simp
 have hL1:W1.heap[w.heap.size+1]? = some (.loop r):=by
  rw [<- hW1];have:=World.alloc_heap_new (w.alloc (.deferred (some []))) (.loop r)
  rwa [World.size_alloc] at this
 have hK1:W1.heap[w.heap.size]? = some (.deferred (some [])):=by
  rw [<- hW1];exact (Below.heap_alloc _ _ _ (by simp)).trans (World.alloc_heap_new w _)
 have hC1:aJ cx { a with defers:=[{ target:=.collected w.heap.size,args:=#[] }] ++ a.defers } W1 st L:=by
  have h1:=fT h hb01;refine ⟨h1.lay,h1.size,⟨List.nodup_cons.2 ⟨fun hmem=>?_,h1.defers.1⟩,fun d hd=>?_⟩,h1.young,h1.env⟩
  .obtain ⟨k,e,_,_,h2⟩:=h.defers.2 _ hmem
   injection e with e _
   injection e with e
   have:=h2.1;omega
  .rcases V8.1 hd with rfl | hd
   .exact ⟨_,rfl,hbase,hK1,Bj h (Os _) (by omega)⟩
   .exact h1.defers.2 d hd
 obtain ⟨st0,hweak,hI0⟩:=h0;obtain ⟨L0,hC0,hS0⟩:=hweak _ _ _ _ hC1
 refine ⟨w.heap.size+1,[{ target:=.collected w.heap.size,args:=#[] }],W1,{ target:=.fn (.func gf') lb,args:=#[.func (.yield (w.heap.size+1)) #[] #[]] },W1,gf',
  #[.func (.yield (w.heap.size+1)) #[] #[]] ++ lb,W1,?_,?_,fun _ _=>trivial,?_,fun h=>(by cases h),?_⟩
 .rw [<- hW1,<- hrec];exact run_enterLoop_outer _ _ _ _ _
 .simp only [resolve,hgv];simp [go_sem]
 .have:=hseq.1 (#[.func (.yield (w.heap.size+1)) #[] #[]] ++ lb) W1;simp [invoke,go_sem,this]
 .have hpre:∀ {pre:List (List AV)} {x:List AV},(pre ++ [x]) <+: xs -> x.length=ps.size:=fun hp=>hx _ (hp.subset (by simp))
  have hex0:∀ {cx':Cx} {W:World} {st:aj} {L:Nat -> Value} {A:Act},aJ cx' A W st L -> aJ (cx'.ex (fun _=>False) fun _ h=>h.elim) A W st L:=fun h=>by
   refine mE h rfl (fun _ _=>rfl) (fun _ _ _ _ _=>rfl) (fun b hs=>⟨hs.1,⟨hs.2.1.1,fun hx=>hs.2.1.2 (hx.resolve_right id)⟩,hs.2.2⟩) ⟨h.lay.below.os,h.lay.below.tape,h.lay.below.output,h.lay.below.size,fun k hk hx=>h.lay.below.block k hk fun hx'=>hx (.inl hx')⟩ (fun b hx=>h.lay.ex b (hx.resolve_right id))
  have hex1:∀ {M:Nat -> Prop} {W:World} {st:aj} {L:Nat -> Value} {A:Act},(hq:∀ b,M b -> cx.w0.heap.size<=b) -> aJ (cx.ex M hq) A W st L -> aJ cx A W st L:=fun hM h=>by
   have hbl:cg (cx.ex _ hM).X cx.w0.heap.size cx.w0 _:=h.lay.below;refine mE h rfl (fun _ _=>rfl) (fun _ _ _ _ _=>rfl) (fun b hs=>⟨hs.1,⟨hs.2.1.1,fun hx=>hs.2.1.2 (.inl hx)⟩,hs.2.2⟩) ⟨hbl.os,hbl.tape,hbl.output,hbl.size,fun k hk hx=>hbl.block k hk fun hx'=>?_⟩ (fun b hx=>h.lay.ex b (.inl hx));rcases hx' with hx'|hx'
   .exact hx hx'
   .have:=hM k hx';omega
  refine (hseq.2 (w.heap.size+1) (Sx cx w st.tab L) lb W1
   (fun pre T M W=>Oh cx { a with defers:=[{ target:=.collected w.heap.size,args:=#[] }] ++ a.defers } (w.heap.size+1) { state:=.ready,pending:=none,fn,tmps:=a.tmps,params:=ps,assign,body,defers:=w.heap.size } (I pre) T M W)
   (fun pre T M W=>∃ c,Oh cx { a with defers:=[{ target:=.collected w.heap.size,args:=#[] }] ++ a.defers } (w.heap.size+1) { state:=.done,pending:=some c,fn,tmps:=a.tmps,params:=ps,assign,body,defers:=w.heap.size } (Ix c pre) T M W)
   hlb ⟨fun b hb=>Vm hb.1 hb01.size,h.lay.amb.below hb01,h.lay.sok.tab⟩ (fun j v av h1 h2=>?_) (fun pre T M W ⟨_,_,_,_,_,_,_,_,_,hT⟩ b hb=>(hT b hb).1) (fun pre T M M' W W' hj hb hm=>hj.step hb hm) (fun pre T M M' W W' ⟨c,hj⟩ hb hm=>⟨c,hj.step hb hm⟩)
   (fun pre x T M W vs hj hp hv hrt=>yJ (a0:={ a with defers:=[{ target:=.collected w.heap.size,args:=#[] }] ++ a.defers }) hfa hfb (hpre hp) (by omega) (fun st1 hi=>hr pre x st1 hp hi) hj hv hrt) ?_).mono ?_
  .have h3:=dP (hcap j v av h1 h2) (d8.1 ht av (p0 h2));exact h3.mono (fun p hp=>World.cell?_of_block (hb01.block p.block hp.1)) fun b hb=>hb
  .have hC0':=hex0 hC0;have hSl:=hS0 _ (Bj (w':=W1) h (b:=w.heap.size+1) (by omega) (by omega));refine ⟨fun _ h=>h.elim,st0,L0,hI0,hC0',by rw [hL1,<- hrec],⟨hSl.1,⟨hSl.2.1.1,fun hx=>hSl.2.1.2 (hx.resolve_right id)⟩,hSl.2.2⟩,fun hT=>?_,fun b hb=>hb.elim,fun b hb=>hS0 b (Ie h hb01.size hb)⟩;have:=hT.1;omega
  .rintro e W2 ⟨⟨v,rfl⟩,(⟨T,M,hq2,st2,L2,h1,h2,h3,h4,_,h6,_⟩ | ⟨pre,T,M,hp,c,hq2,st2,L2,h1,h2,h3,h4,_,h6,_⟩)⟩
   .exact ⟨none,_,run_endLoop h3 (by simp),st2,L2,hd st2 h1,jS (hex1 hq2 h2) (by omega) h3 _⟩
   .refine ⟨some c,_,run_endLoop h3 (by simp),wpIn_wide.2 ?_⟩;exact oc hm c Q _ _ st2 L2 (jS (hex1 hq2 h2) (by omega) h3 _) (hs c pre st2 hp h1)
end
end
section
abbrev IG:=List (List AV) × Bool
def iK (K:IG -> aj -> Prop) (g:IG) (st:aj):Prop:=K g st
def DL:AV -> Prop
 | .agg cs=>aM cs
 | av=>aU av
def xZ:List AV -> Prop
 | []=>True
 | a :: l=>DL a /\ xZ l
theorem rU:∀ {l:List AV},xZ l -> ∀ a ∈ l,DL a
 | a :: l,h,b,hb=>by
  rcases V8.1 hb with rfl|hb
  .exact h.1
  .exact rU h.2 b hb
theorem KI {cx:Cx} {w:World} {tab:ae} {L:Nat -> Value} {x:Value} {av:AV} (h:bN cx w tab L x av) (ht:DL av):RT w (Sx cx w tab L) x av:=by
 cases av with
 | agg cs=>
  obtain ⟨xs,rfl,hn,hr⟩:=h.agg_inv;exact .agg xs cs hn fun j x av h1 h2=>dP (hr j x av h1 h2) (d8.1 ht av (p0 h2))
 | _=>exact dP h ht
def Cj (xs:List (List AV)) (x:List AV) (dst:Option Nat) (K:IG -> aj -> Prop) (g:IG) (st:aj):Prop:=
 (g.2=true /\ xZ x /\ (g.1 ++ [x]) <+: xs) /\ K (g.1 ++ [x],true) (st.put dst (.c (.bool true))) /\ K (g.1 ++ [x],false) (st.put dst (.c (.bool false)))
def rW (P:Program) (l:Nat) (xs:List (List AV)) (f:AV) (o:Oper) (args:List AV) (K:IG -> aj -> Prop) (g:IG) (st:aj):Prop:=
 match f with
 | .c (.func (.yield l') first caps)=>(l'=l /\ first = #[] /\ caps = #[]) /\ Cj xs args o.dst K g st
 | _=>jd P o (iK K g) st
def Gl (P:Program) (l:Nat) (xs:List (List AV)) (o:Oper) (K:IG -> aj -> Prop) (g:IG) (st:aj):Prop:=
 match o.op with
 | .call c=>match c.callee with
  | .value f=>rW P l xs (bj st f) o (c.args.toList.map (bj st)) K g st
  | _=>jd P o (iK K g) st
 | _=>jd P o (iK K g) st
def ub (P:Program) (l:Nat) (xs:List (List AV)) (ops:Array Oper) (K:IG -> aj -> Prop):List Oper -> IG -> aj -> Prop
 | [],g,st=>K g st
 | o :: rest,g,st=>kL ops o.guard (Gl P l xs o (ub P l xs ops K rest) g) (lr o.dst (ub P l xs ops K rest g)) st
def rR (next:IG -> aj -> Prop) (Q:Exit -> IG -> aj -> Prop):Exit -> IG -> aj -> Prop
 | .normal,g,st=>next g st
 | e,g,st=>Q e g st
def ke (id:Nat) (Q:Exit -> IG -> aj -> Prop):Exit -> IG -> aj -> Prop
 | .exit id',g,st=>if id'=id then Q .normal g st else Q (.exit id') g st
 | e,g,st=>Q e g st
def Ci (I:IG -> aj -> Prop) (μ:IG -> aj -> Nat) (n:Nat) (g:IG) (st:aj):Prop:=∃ st',dC st st' /\ I g st' /\ μ g st'<n
def dS (P:Program) (l:Nat) (xs:List (List AV)):Code -> (Exit -> IG -> aj -> Prop) -> IG -> aj -> Prop
 | .skip,Q,g,st=>Q .normal g st
 | .region _ ops _,Q,g,st=>ub P l xs ops (Q .normal) ops.toList g st
 | .seq x y,Q,g,st=>dS P l xs x (rR (dS P l xs y Q) Q) g st
 | .cond c x y,Q,g,st=>n8 (bj st c) (dS P l xs x Q g) (dS P l xs y Q g) st
 | .block id x,Q,g,st=>dS P l xs x (ke id Q) g st
 | .loop x,Q,g,st=>∃ (I:IG -> aj -> Prop) (μ:IG -> aj -> Nat),(∃ st',dC st st' /\ I g st') /\ ∀ g st,I g st -> dS P l xs x (rR (Ci I μ (μ g st)) Q) g st
 | .exit id,Q,g,st=>Q (.exit id) g st
 | .ret,Q,g,st=>Q .ret g st
 | _,_,_,_=>False
def O4 (P:Program) (l:Nat) (xs:List (List AV)) (x:Code) (Q:Exit -> IG -> aj -> Prop) (g:IG) (st:aj):Prop:=dS P l xs (.loop x) Q g st
theorem Av {P:Program} {l:Nat} {xs:List (List AV)} {x:Code} {Q:Exit -> IG -> aj -> Prop} {g:IG} {st:aj} (I:IG -> aj -> Prop) (μ:IG -> aj -> Nat) (h0:∃ st',dC st st' /\ I g st') (h:∀ g st,I g st -> dS P l xs x (rR (Ci I μ (μ g st)) Q) g st):O4 P l xs x Q g st:=⟨I,μ,h0,h⟩
theorem D3 {I:IG -> aj -> Prop} {μ:IG -> aj -> Nat} {n:Nat} {g:IG} {st st':aj} (hw:dC st st') (hI:I g st') (hm:μ g st'<n):Ci I μ n g st:=⟨st',hw,hI,hm⟩
section
variable {P:Program} {l:Nat} {xs:List (List AV)} {Q:Exit -> IG -> aj -> Prop} {g:IG} {st:aj} {K:IG -> aj -> Prop} {ops:Array Oper} {dst:Option Tmp} {op:Op} {ty:TypeId} {pos:String} {aft:Array Edge} {gd:Option (Nat × Bool)} {rest:List Oper}
theorem BN:dS P l xs .skip Q g st=Q .normal g st:=rfl
theorem E9 {id:Nat} {o:List Oper} {b:Bool}:dS P l xs (.region id o.toArray b) Q g st=ub P l xs o.toArray (Q .normal) o g st:=rfl
theorem Eu {x y:Code}:dS P l xs (.seq x y) Q g st=dS P l xs x (rR (dS P l xs y Q) Q) g st:=rfl
theorem CX {c:Operand} {x y:Code}:dS P l xs (.cond c x y) Q g st=n8 (bj st c) (dS P l xs x Q g) (dS P l xs y Q g) st:=rfl
theorem A3 {id:Nat} {x:Code}:dS P l xs (.block id x) Q g st=dS P l xs x (ke id Q) g st:=rfl
theorem Cd {x:Code}:dS P l xs (.loop x) Q g st=O4 P l xs x Q g st:=rfl
theorem Cq {id:Nat}:dS P l xs (.exit id) Q g st=Q (.exit id) g st:=rfl
theorem EZ:dS P l xs .ret Q g st=Q .ret g st:=rfl
theorem wq {next:IG -> aj -> Prop}:rR next Q .normal g st=next g st:=rfl
theorem CH {next:IG -> aj -> Prop} {id:Nat}:rR next Q (.exit id) g st=Q (.exit id) g st:=rfl
theorem FZ {next:IG -> aj -> Prop}:rR next Q .ret g st=Q .ret g st:=rfl
theorem re {id:Nat}:ke id Q .normal g st=Q .normal g st:=rfl
theorem wT {id:Nat}:ke id Q .ret g st=Q .ret g st:=rfl
theorem um {id id':Nat}:ke id Q (.exit id') g st=if id'=id then Q .normal g st else Q (.exit id') g st:=rfl
theorem Kr:ub P l xs ops K [] g st=K g st:=rfl
theorem Br:ub P l xs ops K (⟨dst,op,ty,pos,aft,none⟩ :: rest) g st=Gl P l xs ⟨dst,op,ty,pos,aft,none⟩ (ub P l xs ops K rest) g st:=rfl
theorem Jm {x:Operand}:Gl P l xs ⟨dst,.move x,ty,pos,aft,gd⟩ K g st=jd P ⟨dst,.move x,ty,pos,aft,gd⟩ (iK K g) st:=rfl
theorem BC {x:Operand}:Gl P l xs ⟨dst,.assign x,ty,pos,aft,gd⟩ K g st=jd P ⟨dst,.assign x,ty,pos,aft,gd⟩ (iK K g) st:=rfl
theorem Ko {t:TypeId} {x:Operand}:Gl P l xs ⟨dst,.load t x,ty,pos,aft,gd⟩ K g st=jd P ⟨dst,.load t x,ty,pos,aft,gd⟩ (iK K g) st:=rfl
theorem Er {t:TypeId} {x:Operand} {f:Nat}:Gl P l xs ⟨dst,.fieldAddr t x f,ty,pos,aft,gd⟩ K g st=jd P ⟨dst,.fieldAddr t x f,ty,pos,aft,gd⟩ (iK K g) st:=rfl
theorem OM {o:BinOp} {t t2:TypeId} {x y:Operand}:Gl P l xs ⟨dst,.binOp o t x y t2,ty,pos,aft,gd⟩ K g st=jd P ⟨dst,.binOp o t x y t2,ty,pos,aft,gd⟩ (iK K g) st:=rfl
theorem PY {o:UnOp} {t:TypeId} {x:Operand}:Gl P l xs ⟨dst,.unOp o t x,ty,pos,aft,gd⟩ K g st=jd P ⟨dst,.unOp o t x,ty,pos,aft,gd⟩ (iK K g) st:=rfl
theorem MF {x:Operand} {t:TypeId}:Gl P l xs ⟨dst,.call ⟨.builtin .len,#[x],#[t]⟩,ty,pos,aft,gd⟩ K g st=jd P ⟨dst,.call ⟨.builtin .len,#[x],#[t]⟩,ty,pos,aft,gd⟩ (iK K g) st:=rfl
theorem Lt {f:Operand} {args:List Operand} {ts:Array TypeId}:Gl P l xs ⟨dst,.call ⟨.value f,args.toArray,ts⟩,ty,pos,aft,gd⟩ K g st=rW P l xs (bj st f) ⟨dst,.call ⟨.value f,args.toArray,ts⟩,ty,pos,aft,gd⟩ (args.map (bj st)) K g st:=by simp [Gl]
theorem wY {o:Oper} {args:List AV}:rW P l xs (.c (.func (.yield l) #[] #[])) o args K g st=Cj xs args o.dst K g st:=by simp [rW]
theorem TT:iK K g st=K g st:=rfl
end
def UD:=(And.intro (And.intro (And.intro (And.intro @BN (And.intro @E9 @Eu)) (And.intro @CX (And.intro @A3 @Cd))) (And.intro (And.intro @Cq (And.intro @EZ @wq)) (And.intro (And.intro @CH @FZ) (And.intro @re @wT)))) (And.intro (And.intro (And.intro @um (And.intro @Kr @Br)) (And.intro @Jm (And.intro @BC @Ko))) (And.intro (And.intro @Er (And.intro @OM @PY)) (And.intro (And.intro @MF @Lt) (And.intro @wY @TT)))))
structure FN (P:Program) (l:Nat) (xs:List (List AV)) (J Jx:List (List AV) -> (Nat -> Prop) -> (Nat -> Prop) -> World -> Prop):Prop where
 keep:∀ pre T M M' W W',J pre T M W -> cg M W.heap.size W W' -> (∀ b,M' b -> M b \/ (W.heap.size<=b /\ b<W'.heap.size)) -> J pre (p9 T W W') M' W'
 keepx:∀ pre T M M' W W',Jx pre T M W -> cg M W.heap.size W W' -> (∀ b,M' b -> M b \/ (W.heap.size<=b /\ b<W'.heap.size)) -> Jx pre (p9 T W W') M' W'
 round:∀ pre x T M W (vs:Array Value),J pre T M W -> (pre ++ [x]) <+: xs -> vs.size=x.length -> (∀ (j:Nat) (v:Value) (av:AV),vs[j]? = some v -> x[j]? = some av -> RT W (fun b=>T b /\ ¬ M b) v av) ->
   YieldAt Fence.wide 0 P l vs W fun e W'=>(e=.returned (.bool true) /\ J (pre ++ [x]) T M W' /\ xT T W W') \/ (e=.returned (.bool false) /\ Jx (pre ++ [x]) T M W' /\ xT T W W')
def JJ (J Jx:List (List AV) -> (Nat -> Prop) -> (Nat -> Prop) -> World -> Prop) (g:IG) (T M:Nat -> Prop) (W:World):Prop:=match g.2 with | true=>J g.1 T M W | false=>Jx g.1 T M W
def Pr (T:Nat -> Prop) (W:World) (b:Nat):Prop:=b<W.heap.size /\ ¬ T b
structure tY (T0:Nat -> Prop) (W0:World) (T:Nat -> Prop):Prop where
 amb:Ef W0
 tab0:∀ b,b<xN -> T0 b
 tab:∀ b,b<xN -> T b
def Ee (T0:Nat -> Prop) (W0:World) (T:Nat -> Prop) (W:World) (hq:tY T0 W0 T):Cx:=⟨T0,W0,Pr T W,hq.amb,fun b hb=>Nat.le_of_not_lt fun h=>hb.2 (hq.tab b h),hq.tab0⟩
def B5 (tab:ae) (L:Nat -> Value) (b:Nat):Prop:=∃ id o,tab.get id=some o /\ aO (L id)=some b
def Jo (T0:Nat -> Prop) (W0:World) (J Jx:List (List AV) -> (Nat -> Prop) -> (Nat -> Prop) -> World -> Prop) (g:IG) (st:aj) (a:Act) (W:World):Prop:=
 ∃ (T:Nat -> Prop) (hqq:tY T0 W0 T) (L:Nat -> Value),aJ (Ee T0 W0 T W hqq) a W st L /\ a.defers=[] /\ (∀ b,T b -> b<W.heap.size) /\ JJ J Jx g T (B5 st.tab L) W
section
variable {P:Program} {l:Nat} {xs:List (List AV)} {T0:Nat -> Prop} {W0:World} {J Jx:List (List AV) -> (Nat -> Prop) -> (Nat -> Prop) -> World -> Prop} {g:IG} {st st':aj} {a a':Act} {W W':World} {L L':Nat -> Value} {T M M':Nat -> Prop}
theorem Ly (hs:W.heap.size<=W'.heap.size):Pr (p9 T W W') W'=Pr T W:=by
 funext b
 apply propext;unfold Pr p9;constructor
 .rintro ⟨h1,h2⟩;exact ⟨Nat.lt_of_not_le fun h=>h2 (.inr ⟨h,h1⟩),fun h=>h2 (.inl h)⟩
 .rintro ⟨h1,h2⟩;refine ⟨by omega,fun h=>?_⟩;rcases h with h|h
  .exact h2 h
  .omega
theorem tY.grow (hq:tY T0 W0 T):tY T0 W0 (p9 T W W'):=⟨hq.amb,hq.tab0,fun b hb=>.inl (hq.tab b hb)⟩
theorem JF (hq:tY T0 W0 T) (hs:W.heap.size<=W'.heap.size):Ee T0 W0 (p9 T W W') W' hq.grow=Ee T0 W0 T W hq:=by
 unfold Ee
 congr 1
 exact Ly hs
theorem u9:p9 T W W=T:=by
 funext b
 apply propext;unfold p9;constructor
 .rintro (h | h)
  .exact h
  .omega
 .exact .inl
theorem Ea (H:FN P l xs J Jx) (h:JJ J Jx g T M W) (hb:cg M W.heap.size W W') (hM:∀ b,M' b -> M b \/ (W.heap.size<=b /\ b<W'.heap.size)):JJ J Jx g (p9 T W W') M' W':=by
 obtain ⟨pre,b⟩:=g;cases b
 .exact H.keepx _ _ _ _ _ _ h hb hM
 .exact H.keep _ _ _ _ _ _ h hb hM
theorem RX {hqq:tY T0 W0 T} (h:aJ (Ee T0 W0 T W hqq) a W st L) {b:Nat} (hs:Sx (Ee T0 W0 T W hqq) W st.tab L b):T b /\ ¬ B5 st.tab L b:=
 ⟨Classical.byContradiction fun hn=>hs.2.1.2 ⟨hs.1,hn⟩,fun ⟨id,o,h1,h2⟩=>hs.2.2 id o h1 h2⟩
theorem O8 {hqq:tY T0 W0 T} (h:aJ (Ee T0 W0 T W hqq) a W st L) {id:Nat} {o:aE} {b:Nat} (h1:st.tab.get id=some o) (h2:aO (L id)=some b):T b:=
 Classical.byContradiction fun hn=>(h.lay.ex b ⟨((h.lay.objs id o h1).ge h2).2,hn⟩).2 id o h1 h2
theorem EP {hqq:tY T0 W0 T} (h:aJ (Ee T0 W0 T W hqq) a W st L) (hk:xT T W W'):aJ (Ee T0 W0 T W' hqq) a W' st L:=by
 have hW:cg (Pr T W) W0.heap.size W0 W:=h.lay.below;refine mE h rfl (fun b hs=>hk.block b (RX h hs).1) (fun id o g h1 h2=>hk.block g (O8 h h1 h2)) (fun b hs=>⟨Vm hs.1 hk.size,⟨hs.2.1.1,fun hx=>hx.2 (RX h hs).1⟩,hs.2.2⟩) ?_ (fun b hx=>⟨hx.1,fun id o h1 h2=>hx.2 (O8 h h1 h2)⟩);refine ⟨hk.os.trans hW.os,hk.tape.trans hW.tape,hk.output.trans hW.output,Vz hW.size hk.size,fun k (hk':k<W0.heap.size) hx=>?_⟩;have hT:T k:=Classical.byContradiction fun hn=>hx ⟨Vm hk' (Vz hW.size hk.size),hn⟩;exact (hk.block k hT).trans (hW.block k hk' fun hx'=>hx'.2 hT)
theorem yi {o:Oper} {next:Act -> World -> Prop} {Q:Exit -> Act -> World -> Prop} (h:o.wp P a W next Q):o.wpIn Fence.wide 0 P a W next Q:=by
 refine ⟨fun _ _=>trivial,?_⟩;show o.uponIn Fence.wide 0 P a next Q ((execOp a.eval o).run P W);unfold Oper.wp at h;generalize (execOp a.eval o).run P W=r at h
 cases r with
 | ok x w1=>
  cases x with
  | value v=>exact h
  | skip=>exact h
  | defer d=>exact h
  | enter f args=>exact ⟨fun h=>(by cases h),callsIn_wide.2 h⟩
  | row row args=>
   refine ⟨fun h=>(by cases h),fun c cs _=>?_⟩;obtain ⟨v,w',h1,h2⟩:=h c cs;exact ⟨v,w',h1,stepsIn_wide.2 h2⟩
  | _=>exact h.elim
 | halt x w1=>
  cases x<;>first|exact h|exact h.elim
theorem RZ (H:FN P l xs J Jx) {o:Oper} {K:IG -> aj -> Prop} {Q:Exit -> Act -> World -> Prop} (hf:Kg o=true) (h:Jo T0 W0 J Jx g st a W) (hp:Gl P l xs o K g st) :
  o.wpIn Fence.wide 0 P a W (fun a' W'=>∃ g' st',K g' st' /\ Jo T0 W0 J Jx g' st' a' W') Q:=by
 obtain ⟨T,hqq,L,hC,hd,hT,hJ⟩:=h
 have plain:jd P o (iK K g) st -> o.wpIn Fence.wide 0 P a W (fun a' W'=>∃ g' st',K g' st' /\ Jo T0 W0 J Jx g' st' a' W') Q:=fun hp=>by
  refine yi (Oper.wp_mono (fun a' W' ⟨st',L',h2,h3,h4,h5⟩=>?_) (BQ hC hp hf));have hW:cg (Pr T W) W0.heap.size W0 W:=hC.lay.below;have hW':cg (Pr T W) W0.heap.size W0 W':=h3.lay.below;refine ⟨g,st',h2,p9 T W W',hqq.grow,L',by rw [JF hqq h4.size];exact h3,h5.trans hd,fun b hb'=>?_,Ea H hJ ⟨hW'.os.trans hW.os.symm,hW'.tape.trans hW.tape.symm,hW'.output.trans hW.output.symm,h4.size,fun k hk hn=>h4.keep k hk fun id o h6 h7=>hn ⟨id,o,h6,h7⟩⟩ fun b hb'=>?_⟩
  .rcases hb' with hb' | hb'
   .exact Vm (hT b hb') h4.size
   .exact hb'.2
  .obtain ⟨id,o,h6,h7⟩:=hb';rcases Vv b W.heap.size with hlt|hge
   .obtain ⟨id2,o2,h8,h9⟩:=h4.young id o b h6 h7 hlt;exact .inl ⟨id2,o2,h8,h9⟩
   .exact .inr ⟨hge,((h3.lay.objs id o h6).ge h7).2⟩
 obtain ⟨dst,op,ty,pos,aft,gd⟩:=o;unfold Gl at hp;simp only at hp;split at hp
 .rename_i c;obtain ⟨callee,args,argTypes⟩:=c;simp only at hp;split at hp
  .rename_i f;unfold rW at hp;split at hp
   .rename_i l' first caps hfv
    obtain ⟨⟨rfl,rfl,rfl⟩,⟨h1,h2,h3⟩,h4,h5⟩:=hp;have hfe:=(am hC f).1;rw [hfv] at hfe;have hfe:=hfe.c_inv
    have hJ':J g.1 T (B5 st.tab L) W:=by
     unfold JJ at hJ;rw [h1] at hJ;exact hJ
    have hrt:∀ (j:Nat) (v:Value) (av:AV),(args.map a.eval)[j]? = some v -> (args.toList.map (bj st))[j]? = some av -> RT W (fun b=>T b /\ ¬ B5 st.tab L b) v av:=fun j v av h6 h7=>by
     rw [XB] at h6;rw [Ve,Wd] at h7
     cases hj:args[j]? with
     | none=>simp [hj] at h6
     | some x=>
      simp [hj] at h6 h7;subst h6 h7;have htr:=rU h2 (bj st x) (Vt.2 ⟨x,p0 (by rw [Wd];exact hj),rfl⟩);exact (KI (am hC x).1 htr).mono (fun _ _=>rfl) fun b hb=>RX hC hb
    obtain ⟨fn,tmps,assign,body,hy,hR⟩:=H.round g.1 _ T _ W (args.map a.eval) hJ' h3 (by simp) hrt;refine ⟨fun _ _=>trivial,?_⟩
    have hrun:(execOp a.eval { dst:=dst,op:=.call { callee:=.value f,args:=args,argTypes:=argTypes },type:=ty,pos:=pos,after:=aft,guard:=gd }).run P W=.ok (.round l' fn tmps assign body) W:=by
     simp [execOp,Sem.run_bind,resolve,hfe,Deferred.ofValue,invoke,hy]
    have hsem:∀ o:Oper,Oper.semAt Fence.wide.round a.eval o=execOp a.eval o:=fun o=>Oper.semAt_none _ _;rw [hsem,hrun,Oper.uponIn_round];refine ⟨fun h=>(by cases h),hR.mono ?_⟩
    have hput:∀ b:Bool,∀ W',xT T W W' -> aJ (Ee T0 W0 T W' hqq) (a.put dst (.bool b)) W' (st.put dst (.c (.bool b))) L /\ (a.put dst (.bool b)).defers=[] /\ ∀ x,T x -> x<W'.heap.size:=fun b W' hk=>
     ⟨bl (EP hC hk) (.tree (.c _)) trivial dst,by rw [bf];exact hd,fun x hx=>Vm (hT x hx) hk.size⟩
    rintro e W' (⟨rfl,hj,hk⟩ | ⟨rfl,hj,hk⟩)
    .obtain ⟨c1,c2,c3⟩:=hput true W' hk;exact ⟨_,_,h4,T,hqq,L,c1,c2,c3,by rw [bK];exact hj⟩
    .obtain ⟨c1,c2,c3⟩:=hput false W' hk;exact ⟨_,_,h5,T,hqq,L,c1,c2,c3,by rw [bK];exact hj⟩
   .exact plain hp
  .exact plain hp
 .exact plain hp
theorem wU (H:FN P l xs J Jx) {ops:Array Oper} {K:IG -> aj -> Prop} {Q:Exit -> Act -> World -> Prop} (hQ:∀ g st a W,K g st -> Jo T0 W0 J Jx g st a W -> Q .normal a W) :
  ∀ (s:List Oper) (g:IG) (st:aj) (a:Act) (W:World),(∀ o ∈ s,Kg o=true) -> Jo T0 W0 J Jx g st a W -> ub P l xs ops K s g st -> wpListIn Fence.wide 0 P ops Q s a W
 | [],g,st,a,W,_,h,hp=>hQ g st a W hp h
 | o :: rest,g,st,a,W,hf,h,hp=>by
  unfold ub at hp;have hfo:=hf o (V1 ..);obtain ⟨T,hqq,L,hC,hd,hT,hJ⟩:=h;refine wpListIn_step fun K' hK'=>?_;rcases cz hC hp o rfl with ⟨hw,st',h1,h2,e1,e2⟩|⟨hw,st',h1,h2,e1,e2⟩
  .rw [Vn hw];have hi:=RZ (Q:=Q) H hfo ⟨T,hqq,L,h2,hd,hT,by rw [e1];exact hJ⟩ h1;refine ⟨hi.1,?_⟩;have:=hi.2;revert this;generalize (o.semAt Fence.wide.round a.eval).run P W=r;intro this;have hm:∀ a' W',(∃ g' st',ub P l xs ops K rest g' st' /\ Jo T0 W0 J Jx g' st' a' W') -> K' a' W':=fun a' W' ⟨g',st'',h3,h4⟩=>hK' a' W' (wU H hQ rest g' st'' a' W' (fun o ho=>hf o (VT _ ho)) h4 h3)
   cases r with
   | ok x w1=>
    cases x with
    | value v=>exact hm _ _ this
    | skip=>exact hm _ _ this
    | defer d=>exact hm _ _ this
    | enter f args=>
     refine ⟨this.1,this.2.mono ?_⟩;intro e w'' h5
     cases e with
     | returned v=>exact hm _ _ h5
     | panicked c=>exact h5
     | outgrown=>exact h5
    | row row args=>exact ⟨this.1,this.2.mono fun v w'' h5=>hm _ _ h5⟩
    | round l f tmps assign body=>
     refine ⟨this.1,this.2.mono ?_⟩;intro e w'' h5
     cases e with
     | returned v=>exact hm _ _ h5
     | panicked c=>exact h5
     | outgrown=>exact h5
    | _=>exact this
   | halt x w1=>cases x<;>exact this
  .rw [Vh (by simp [hw])];exact ⟨fun _ _=>trivial,hK' _ _ (wU H hQ rest g _ _ W (fun o ho=>hf o (VT _ ho)) ⟨T,hqq,L,bZ h2 o.dst,by rw [bf];exact hd,hT,by rw [bK,e1];exact hJ⟩ h1)⟩
def gW:Code -> Bool
 | .skip=>true
 | .region _ ops draw=>!draw && ops.toList.all Kg
 | .seq x y=>gW x && gW y
 | .cond _ x y=>gW x && gW y
 | .block _ x=>gW x
 | .loop x=>gW x
 | .exit _=>true
 | .ret=>true
 | _=>false
abbrev Qv (T0:Nat -> Prop) (W0:World) (J Jx:List (List AV) -> (Nat -> Prop) -> (Nat -> Prop) -> World -> Prop) (Q:Exit -> IG -> aj -> Prop):Exit -> Act -> World -> Prop:=fun e a W=>∃ g st,Q e g st /\ Jo T0 W0 J Jx g st a W
theorem zp (H:FN P l xs J Jx) (h:Jo T0 W0 J Jx g st a W) (hw:dC st st'):Jo T0 W0 J Jx g st' a W:=by
 obtain ⟨T,hqq,L,hC,hd,hT,hJ⟩:=h;obtain ⟨L',hC',hS⟩:=hw _ _ _ _ hC;refine ⟨T,hqq,L',hC',hd,hT,?_⟩;have:=Ea (M':=B5 st'.tab L') (W':=W) H hJ ⟨rfl,rfl,rfl,Os _,fun _ _ _=>rfl⟩ fun b hb=>.inl (Classical.byContradiction fun hn=>?_)
 .rw [u9] at this;exact this
 .obtain ⟨id,o,h1,h2⟩:=hb;have hge:=(hC'.lay.objs id o h1).ge h2;have hX:¬ Pr T W b:=fun hx=>(hC'.lay.ex b hx).2 id o h1 h2;have hs:Sx (Ee T0 W0 T W hqq) W st.tab L b:=⟨hge.2,⟨.inr hge.1,hX⟩,fun id2 o2 h3 h4=>hn ⟨id2,o2,h3,h4⟩⟩;exact (hS b hs).2.2 id o h1 h2
theorem Jz (H:FN P l xs J Jx):∀ (c:Code),gW c=true -> ∀ (Q:Exit -> IG -> aj -> Prop) (g:IG) (st:aj) (a:Act) (W:World),Jo T0 W0 J Jx g st a W -> dS P l xs c Q g st -> c.wpIn Fence.wide 0 P (Qv T0 W0 J Jx Q) a W:=by
 intro c
 induction c with
 | skip=>exact fun _ Q g st a W h hp=>wpIn_skip ⟨g,st,hp,h⟩
 | region id ops draw=>
  intro hf Q g st a W h hp
  cases draw with
  | false=>
   simp only [gW,W7,V4,Xj] at hf;exact wpIn_region_list (wU H (fun g st a W h1 h2=>⟨g,st,h1,h2⟩) _ g st a W hf h hp)
  | true=>cases hf
 | seq x y ihx ihy=>
  intro hf Q g st a W h hp;simp only [gW,Vw] at hf;unfold dS at hp;refine wpIn_seq (wpIn_mono (ihx hf.1 _ g st a W h hp) (fun e a' W' ⟨g',st',h1,h2⟩=>?_))
  cases e with
  | normal=>exact ihy hf.2 Q g' st' a' W' h2 h1
  | _=>exact ⟨g',st',h1,h2⟩
 | cond c x y ihx ihy=>
  intro hf Q g st a W h hp;simp only [gW,Vw] at hf;unfold dS n8 at hp;split at hp
  .rename_i b hb;obtain ⟨T,hqq,L,hC,_⟩:=id h;have hv:=(am hC c).1;rw [hb] at hv;have hv:=hv.c_inv;cases b
   .exact wpIn_cond_false hv (ihy hf.2 Q g st a W h hp)
   .exact wpIn_cond_true hv (ihx hf.1 Q g st a W h hp)
  .exact hp.elim
 | block id x ih=>
  intro hf Q g st a W h hp;simp only [gW] at hf;unfold dS at hp;refine wpIn_block (wpIn_mono (ih hf _ g st a W h hp) (fun e a' W' ⟨g',st',h1,h2⟩=>?_))
  cases e with
  | exit id'=>
   simp only [ke,Exit.inBlock] at h1 ⊢;split
   .rename_i e;rw [Vn e] at h1;exact ⟨g',st',h1,h2⟩
   .rename_i e;rw [Vh e] at h1;exact ⟨g',st',h1,h2⟩
  | _=>exact ⟨g',st',h1,h2⟩
 | loop x ih=>
  intro hf Q g st a W h hp;simp only [gW] at hf;unfold dS at hp;obtain ⟨I,μ,⟨st0,hw0,hI⟩,hr⟩:=hp
  let p:Act -> World -> Nat -> Prop:=fun a W n=>∃ g st,I g st /\ Jo T0 W0 J Jx g st a W /\ μ g st=n
  refine wpIn_loop (fun a W=>∃ n,p a W n) (fun a W=>lm (p a W)) ⟨_,g,st0,hI,zp H h hw0,rfl⟩ fun a W hpa=>?_;obtain ⟨⟨g,st,h1,h2,h3⟩,_⟩:=gK hpa;refine wpIn_mono (ih hf _ g st a W h2 (hr g st h1)) (fun e a' W' ⟨g',st',h4,h5⟩=>?_)
  cases e with
  | normal=>
   obtain ⟨st'',hw,hI'',hlt⟩:=h4;have hpn:p a' W' (μ g' st''):=⟨g',st'',hI'',zp H h5 hw,rfl⟩;refine ⟨⟨_,hpn⟩,?_⟩;have:=(gK ⟨_,hpn⟩).2 _ hpn;show lm (p a' W')<lm (p a W);omega
  | _=>exact ⟨g',st',h4,h5⟩
 | exit id=>exact fun _ Q g st a W h hp=>wpIn_exit ⟨g,st,hp,h⟩
 | ret=>exact fun _ Q g st a W h hp=>wpIn_ret ⟨g,st,hp,h⟩
 | _=>exact fun hf=>(by cases hf)
def TG (xs:List (List AV)):Exit -> IG -> aj -> Prop
 | .normal,g,_=>(g.2=true -> g.1=xs) /\ g.1 <+: xs
 | .ret,g,_=>(g.2=true -> g.1=xs) /\ g.1 <+: xs
 | _,_,_=>False
end
theorem EI {S:Nat -> Prop} {w:World} {vs:Array Value} {args:List AV} {n:Nat} {hqq:tY S w S} (hS:∀ b,S b -> b<w.heap.size) (hvs:vs.size=args.length) (hn:args.length<=n) (hv:∀ (j:Nat) (v:Value) (av:AV),vs[j]? = some v -> args[j]? = some av -> RT w S v av) :
  aJ (Ee S w S w hqq) { tmps:=vs ++ Array.replicate (n - vs.size) undef,defers:=[] } w ⟨n,dh 0 args,[],0⟩ (fun _=>undef):=by
 have hL:iL (Ee S w S w hqq) w [] (fun _=>undef):=⟨jQ (Below.refl _ _),fun id o h=>(by cases h),fun id id' o o' g h=>(by cases h),fun b hb=>⟨hb.1,fun id o h=>(by cases h)⟩⟩;refine ⟨hL,?_,jt.nil _ _ _,fun id o h=>(by cases h),fun t=>?_⟩
 .simp;omega
 have e:(⟨n,dh 0 args,[],0⟩:aj).get t=args.getD t .any:=by
  show (if t<n then bh (dh 0 args) t else .any)=_;rw [iP];split
  .simp
  .simp [List.getD,Vs (show args.length<=t by omega)]
 rw [e];by_cases ht:t<args.length
 .have ht':t<vs.size:=by omega
  have e2:(vs ++ Array.replicate (n - vs.size) undef).getD t undef=vs[t]:=by
   rw [V9,V5 ht',Vj ht'];rfl
  have e3:args.getD t .any=args[t]:=by simp [List.getD,ht]
  rw [e2,e3];have:=hv t _ _ (Vj ht') (f4 ht);exact ⟨.tree (this.mono (fun _ _=>rfl) fun b hb=>⟨hS b hb,⟨.inl hb,fun hx=>hx.2 hb⟩,fun id o h=>by cases h⟩),this.lt 0⟩
 .have e3:args.getD t .any=.any:=by simp [List.getD,Vs (Nat.le_of_not_lt ht)]
  rw [e3];exact ⟨.tree (.any _),trivial⟩
theorem wV {P : Program} {f : FuncId} {fn : Func} {c : Code} (hf : P.funcs[f]? = some fn) (hb : fn.body = some c) (hname : (fn.name == "runtime.NumGoroutine") = false) {caps : List AV} {xs : List (List AV)} {n : Nat} (hnt : fn.ntmps = n) (hrs : fn.results = #[]) (hn : Nat.ble (caps.length + 1) n = true)
  (hc:gW c=true) (ht:aM caps) (h:∀ l,dS P l xs c (TG xs) ([],true) ⟨n,dh 0 (.c (.func (.yield l) #[] #[]) :: caps),[],0⟩):Ss P f caps xs:=by
 have hn:=WW hn;subst hnt;refine ⟨fb hf hb hname,fun l T0 lb W0 J Jx hlb hok0 hcap hlt hkeep hkeepx hround hJ0=>?_⟩;have hqq:tY T0 W0 T0:=⟨hok0.amb,hok0.tab,hok0.tab⟩;refine callsIn_of_wp hf hb trivial ?_ rfl;have H:FN P l xs J Jx:=⟨hkeep,hkeepx,hround⟩
 have hC:aJ (Ee T0 W0 T0 W0 hqq) { tmps:=(#[.func (.yield l) #[] #[]] ++ lb) ++ Array.replicate (fn.ntmps - (#[Value.func (.yield l) #[] #[]] ++ lb).size) undef,defers:=[] } W0 ⟨fn.ntmps,dh 0 (.c (.func (.yield l) #[] #[]) :: caps),[],0⟩ (fun _=>undef):=by
  refine EI (args:=.c (.func (.yield l) #[] #[]) :: caps) ?_ ?_ (by simpa using hn) fun j v av h1 h2=>?_
  .exact hlt _ _ _ _ hJ0
  .simp;omega
  .cases j with
   | zero=>
    rw [V5 (by simp)] at h1;simp at h1 h2;subst h1;subst h2;exact .c _
   | succ j=>
    refine hcap j v av ?_ (by simpa using h2);rw [Xg (by simp)] at h1;simpa using h1
 have hJ1:J [] T0 (B5 (⟨fn.ntmps,dh 0 (.c (.func (.yield l) #[] #[]) :: caps),[],0⟩:aj).tab fun _=>undef) W0:=by
  have:=hkeep [] T0 _ (B5 [] fun _=>undef) W0 W0 hJ0 ⟨rfl,rfl,rfl,Os _,fun _ _ _=>rfl⟩ fun b ⟨id,o,h1,_⟩=>(by cases h1);rw [u9] at this;exact this
 refine wpIn_mono (Jz H c hc _ ([],true) _ _ _ ⟨T0,hqq,_,hC,rfl,hlt _ _ _ _ hJ0,hJ1⟩ (h l)) fun e a W' ⟨g,st,hq,T,hq3,L,hC',hd,_,hJ⟩=>?_
 have fin:((g.2=true -> g.1=xs) /\ g.1 <+: xs) -> a.defers=[] /\ ∃ v,(results fn a.tmps).run P W'=.ok v W' /\ (∃ u,(Ending.returned v:Ending)=.returned u) /\ ((∃ T M,J xs T M W') \/ ∃ pre T M,pre <+: xs /\ Jx pre T M W'):=fun ⟨h1,h2⟩=>by
  refine ⟨hd,.tuple #[],by simp [results,hrs],⟨_,rfl⟩,?_⟩;obtain ⟨pre,b⟩:=g
  cases b with
  | true=>
   obtain rfl:pre=xs:=h1 rfl;exact .inl ⟨T,_,hJ⟩
  | false=>exact .inr ⟨pre,T,_,h2,hJ⟩
 cases e with
 | normal=>exact fin hq
 | ret=>exact fin hq
 | _=>exact hq.elim
end
section
mutual
def AV.rpz (id:Nat) (cells:List AV):AV -> AV
 | .op id' i j=>if id'=id then (if i=0 then .rp (cells.drop j) else .any) else .op id' i j
 | .osl id'=>if id'=id then .any else .osl id'
 | .agg cs=>.agg (AV.rpzL id cells cs)
 | .tup cs=>.tup (AV.rpzL id cells cs)
 | .fn f cs=>.fn f (AV.rpzL id cells cs)
 | .bfn f cs=>.bfn f (AV.rpzL id cells cs)
 | .any=>.any
 | .c v=>.c v
 | .sl sz rows=>.sl sz rows
 | .rp cs=>.rp cs
def AV.rpzL (id:Nat) (cells:List AV):List AV -> List AV
 | []=>[]
 | a :: l=>a.rpz id cells :: AV.rpzL id cells l
end
theorem gm (id:Nat) (cells:List AV):∀ l:List AV,AV.rpzL id cells l=l.map (·.rpz id cells)
 | []=>rfl
 | a :: l=>by rw [AV.rpzL,gm id cells l];rfl
def nP (id:Nat) (cells:List AV):List (Nat × AV) -> List (Nat × AV)
 | []=>[]
 | (t,av) :: l=>(t,av.rpz id cells) :: nP id cells l
theorem sF (id:Nat) (cells:List AV):∀ (l:List (Nat × AV)) (t:Nat),bh (nP id cells l) t=(bh l t).rpz id cells
 | [],t=>rfl
 | (k,av) :: l,t=>by
  unfold nP bh;split
  .rfl
  .exact sF id cells l t
def D5:aE -> Prop
 | .box _ cells=>aM cells
 | .row _ _ _=>True
 | .map _=>True
 | .nest _ _ _=>False
 | .ghost _ _=>False
def mu (id:Nat):ae -> Prop
 | []=>True
 | (k,some o) :: l=>(k=id \/ D5 o) /\ mu id l
 | (_,none) :: l=>mu id l
theorem l7 {id:Nat}:∀ {l:ae} {k:Nat} {o:aE},mu id l -> l.get k=some o -> k=id \/ D5 o
 | [],k,o,_,h=>by cases h
 | (k',some oo) :: l,k,o,ht,h=>by
  rw [ae.gc] at h;split at h
  .rename_i e;cases h;rw [e];exact ht.1
  .exact l7 ht.2 h
 | (k',none) :: l,k,o,ht,h=>by
  rw [ae.gc] at h;split at h
  .cases h
  .exact l7 (l:=l) ht h
theorem R0 {w:World} {S:Nat -> Prop} {x:Value} {av:AV} (h:RT w S x av) (id:Nat) (cells:List AV):av.rpz id cells=av:=by
 induction h with
 | agg xs cs hn hr ih=>
  simp only [AV.rpz,gm,AV.agg.injEq];apply V2;intro j;rw [Ve]
  cases hj:cs[j]? with
  | none=>rfl
  | some av=>
   have hlt:j<xs.size:=by rw [hn];exact (Vd.1 hj).1
   simp [ih j _ av (Vj hlt) hj]
 | tup xs cs hn hr ih=>
  simp only [AV.rpz,gm,AV.tup.injEq];apply V2;intro j;rw [Ve]
  cases hj:cs[j]? with
  | none=>rfl
  | some av=>
   have hlt:j<xs.size:=by rw [hn];exact (Vd.1 hj).1
   simp [ih j _ av (Vj hlt) hj]
 | fn f xs cs hn hr ih=>
  simp only [AV.rpz,gm,AV.fn.injEq];refine ⟨trivial,?_⟩;apply V2;intro j;rw [Ve]
  cases hj:cs[j]? with
  | none=>rfl
  | some av=>
   have hlt:j<xs.size:=by rw [hn];exact (Vd.1 hj).1
   simp [ih j _ av (Vj hlt) hj]
 | bfn f xs cs hn hr ih=>
  simp only [AV.rpz,gm,AV.bfn.injEq];refine ⟨trivial,?_⟩;apply V2;intro j;rw [Ve]
  cases hj:cs[j]? with
  | none=>rfl
  | some av=>
   have hlt:j<xs.size:=by rw [hn];exact (Vd.1 hj).1
   simp [ih j _ av (Vj hlt) hj]
 | _=>rfl
theorem RU {id nx:Nat} {cells:List AV}:∀ {av:AV},av.lt nx -> (av.rpz id cells).lt nx:=by
 intro av
 induction av using AV.rec (motive_2:=fun _=>True) (motive_3:=fun l=>AV.ltL nx l -> AV.ltL nx (AV.rpzL id cells l))<;>simp_all [AV.lt,AV.ltL,AV.rpz,AV.rpzL]
 .split<;>simp_all [AV.lt]
 .split
  .split<;>simp [AV.lt]
  .simp_all [AV.lt]
theorem Hw {n nx:Nat} {env:List (Nat × AV)} {tab:ae} (id:Nat) {ty:TypeId} {cells:List AV} (hid:tab.get id=some (.box ty cells)) (ht:k7 cells) (hot:mu id tab):dC ⟨n,env,tab,nx⟩ ⟨n,nP id cells env,(id,none) :: tab,nx⟩:=by
 intro cx a w L h
 have hget:∀ k o,ae.get ((id,none) :: tab) k=some o -> k ≠ id /\ tab.get k=some o:=fun k o hk=>by
  rw [ae.gc] at hk;split at hk
  .cases hk
  .exact ⟨by assumption,hk⟩
 have hS:∀ b,Sx cx w tab L b -> Sx cx w ((id,none) :: tab) L b:=fun b hb=>⟨hb.1,hb.2.1,fun k o hk=>hb.2.2 k o (hget k o hk).2⟩
 have hK:∀ k p,Kx ((id,none) :: tab) L k=some p -> k ≠ id /\ Kx tab L k=some p:=fun k p hk=>by
  unfold Kx at *
  cases ho:ae.get ((id,none) :: tab) k with
  | none=>simp [ho] at hk
  | some o=>
   obtain ⟨h1,h2⟩:=hget k o ho;refine ⟨h1,?_⟩;rw [h2];simpa [ho] using hk
 obtain ⟨g,cs,hL,hbg,hheap,hcs,hx⟩:=h.lay.objs id _ hid;have hg:aO (L id)=some g:=by rw [hL];rfl
 have hSg:Sx cx w ((id,none) :: tab) L g:=⟨(VJ.1 hheap).1,⟨.inr hbg,fun hX=>(h.lay.ex g hX).2 id _ hid hg⟩,fun k o hk hkg=>by
  obtain ⟨h1,h2⟩:=hget k o hk;exact h1 (h.lay.sep k id o _ g h2 hid hkg hg)⟩
 have conv:∀ x av,bN cx w tab L x av -> bN cx w ((id,none) :: tab) L x (av.rpz id cells):=fun x av hr=>by
  induction hr with
  | tree h0=>
   rw [R0 h0];exact .tree (h0.mono (fun _ _=>rfl) hS)
  | osl x id' h0=>
   unfold AV.rpz;split
   .exact .tree (.any _)
   .exact .osl x id' fun sz v e=>h0 sz v (hK id' _ e).2
  | op x id' i j h0=>
   unfold AV.rpz;split
   .rename_i e;subst e;split
    .rename_i e;subst e;obtain ⟨g',hg',rfl⟩:=h0 _ _ (cQ hid);rw [hg] at hg';cases hg';rw [Xf,WR];refine .tree (.rp g j _ (fun k=>cs[j+k]?.getD undef) hSg (fun k av hk=>?_) (fun k av hk=>?_))
     .rw [VV] at hk;have hlt:j+k<cs.size:=by rw [hcs];exact (Vd.1 hk).1
      rw [cell_of_row w g (j+k) cs ty (0,0) hheap,Vj hlt];rfl
     .rw [VV] at hk;have hlt:j+k<cs.size:=by rw [hcs];exact (Vd.1 hk).1
      rw [Vj hlt,VH];exact (sy (hx (j+k) _ av (Vj hlt) hk).1 (kA ht (p0 hk))).mono (fun _ _=>rfl) hS
    .exact .tree (.any _)
   .exact .op x id' i j fun sz v e=>h0 sz v (hK id' _ e).2
  | agg xs cs' hn hr ih=>
   simp only [AV.rpz,gm];refine .agg xs _ (by simpa using hn) fun j x av h1 h2=>?_;rw [Ve] at h2
   cases hj:cs'[j]? with
   | none=>simp [hj] at h2
   | some av'=>
    simp [hj] at h2;subst h2;exact ih j x av' h1 hj
  | tup xs cs' hn hr ih=>
   simp only [AV.rpz,gm];refine .tup xs _ (by simpa using hn) fun j x av h1 h2=>?_;rw [Ve] at h2
   cases hj:cs'[j]? with
   | none=>simp [hj] at h2
   | some av'=>
    simp [hj] at h2;subst h2;exact ih j x av' h1 hj
  | fn f xs cs' hn hr ih=>
   simp only [AV.rpz,gm];refine .fn f xs _ (by simpa using hn) fun j x av h1 h2=>?_;rw [Ve] at h2
   cases hj:cs'[j]? with
   | none=>simp [hj] at h2
   | some av'=>
    simp [hj] at h2;subst h2;exact ih j x av' h1 hj
  | bfn f xs cs' hn hr ih=>
   simp only [AV.rpz,gm];refine .bfn f xs _ (by simpa using hn) fun j x av h1 h2=>?_;rw [Ve] at h2
   cases hj:cs'[j]? with
   | none=>simp [hj] at h2
   | some av'=>
    simp [hj] at h2;subst h2;exact ih j x av' h1 hj
 refine ⟨L,⟨⟨h.lay.below,fun k o hk=>?_,fun k k' o o' g' h1 h2=>h.lay.sep k k' o o' g' (hget k o h1).2 (hget k' o' h2).2,fun b hb=>⟨(h.lay.ex b hb).1,fun k o hk=>(h.lay.ex b hb).2 k o (hget k o hk).2⟩⟩,h.size,h.defers.mono (fun _ _=>rfl) hS,fun k o hk=>h.young k o (hget k o hk).2,fun t=>?_⟩,hS⟩
 .obtain ⟨h1,h2⟩:=hget k o hk;have ho:=h.lay.objs k o h2;have htr:=(l7 hot h2).resolve_left h1
  cases o with
  | box t cells'=>
   obtain ⟨g',cs',h3,h4,h5,h6,h7⟩:=ho;exact ⟨g',cs',h3,h4,h5,h6,fun j x av h8 h9=>⟨.tree ((dP (h7 j x av h8 h9).1 (d8.1 htr av (p0 h9))).mono (fun _ _=>rfl) hS),(h7 j x av h8 h9).2⟩⟩
  | row e sz rows=>
   obtain ⟨h3,xs,h4,h5,h6⟩:=ho;refine ⟨h3,xs,h4,h5,fun i j row av h7 h8=>?_⟩;obtain ⟨x,hx,hr⟩:=h6 i j row av h7 h8;exact ⟨x,hx,hr.mono (fun _ _=>rfl) hS⟩
  | map ents=>exact ho
  | nest=>exact htr.elim
  | ghost vs env=>exact htr.elim
 .have e1:(⟨n,nP id cells env,(id,none) :: tab,nx⟩:aj).get t=((⟨n,env,tab,nx⟩:aj).get t).rpz id cells:=by
   unfold aj.get;simp only;split
   .exact sF ..
   .simp [AV.rpz]
  rw [e1];exact ⟨conv _ _ (h.env t).1,RU (h.env t).2⟩
theorem vi:∀ {l:List AV},aM l -> k7 l
 | [],_=>trivial
 | a :: l,h=>⟨by
   have:=h.1;cases a<;>first|exact this|exact this.elim,vi h.2⟩
theorem M6 {n nx:Nat} {env:List (Nat × AV)} {tab:ae} (id:Nat) {ty:TypeId} {cells:List AV} (hid:tab.get id=some (.box ty cells)) (ht:aM cells) (hot:mu id tab):dC ⟨n,env,tab,nx⟩ ⟨n,nP id cells env,(id,none) :: tab,nx⟩:=Hw id hid (vi ht) hot
theorem ct {st:aj} (id j e sz:Nat) {t:TypeId} {cells:List AV} (hid:st.tab.get id=some (.box t cells)) (hj:cells[j]? = some (.c (.slice none 0 0))) :
  dC st ⟨st.n,st.env,(id,some (.box t (cells.set j (.osl st.next)))) :: (st.next,some (.row e sz [])) :: st.tab,st.next+1⟩:=by
 intro cx a w L h;have hc1:=j6 (ob:=.row e sz []) (v:=.slice none 0 0) (x:=.slice none 0 0) (av:=.any) h (Below.refl _ _) (fun g hg=>by simp [aO] at hg) (fun hext=>⟨by simp,[],ko ..,by simp,by simp⟩) trivial (fun hext=>.tree (.any _)) trivial none;have hlt:=(h.young id _ hid).1;have hget1:ae.get ((st.next,some (.row e sz [])) :: st.tab) id=some (.box t cells):=by rw [ae.gc,Vh (by omega)];exact hid
 generalize hL1:bq L st.next (.slice none 0 0)=L1 at hc1;generalize ht1:(st.next,some (aE.row e sz [])) :: st.tab=tab1 at hc1 hget1 ⊢;have hc1:aJ cx a w ⟨st.n,st.env,tab1,st.next+1⟩ L1:=hc1;have hnew:ae.get tab1 st.next=some (.row e sz []):=by rw [<- ht1,ae.gc,Vn rfl]
 have hLn:L1 st.next=.slice none 0 0:=by rw [<- hL1];simp [bq]
 have hget:∀ k o,ae.get ((id,some (.box t (cells.set j (.osl st.next)))) :: tab1) k=some o -> ∃ o',ae.get tab1 k=some o' /\ o.sz=o'.sz:=fun k o hk=>by
  rw [ae.gc] at hk;split at hk
  .rename_i e1;cases hk;exact ⟨_,by rw [e1];exact hget1,by simp [aE.sz]⟩
  .exact ⟨o,hk,rfl⟩
 have hS1:∀ b,Sx cx w tab1 L1 b -> Sx cx w ((id,some (.box t (cells.set j (.osl st.next)))) :: tab1) L1 b:=fun b hb=>⟨hb.1,hb.2.1,fun k o hk=>by
  obtain ⟨o',h1,_⟩:=hget k o hk;exact hb.2.2 k o' h1⟩
 have hK:∀ k p,Kx ((id,some (.box t (cells.set j (.osl st.next)))) :: tab1) L1 k=some p -> Kx tab1 L1 k=some p:=fun k p hk=>by
  unfold Kx at *
  cases ho:ae.get ((id,some (.box t (cells.set j (.osl st.next)))) :: tab1) k with
  | none=>simp [ho] at hk
  | some o=>
   obtain ⟨o',h1,h2⟩:=hget k o ho;rw [h1];simpa [ho,h2] using hk
 have hrv:∀ {x av},bN cx w tab1 L1 x av -> av.lt (st.next+1) -> bN cx w ((id,some (.box t (cells.set j (.osl st.next)))) :: tab1) L1 x av:=fun hr hl=>hr.mono hl (fun _ _=>rfl) hS1 fun k p _ hk=>hK k p hk
 refine ⟨L1,⟨⟨hc1.lay.below,fun k o hk=>?_,fun k k' o o' g h1 h2=>?_,fun b hb=>⟨(hc1.lay.ex b hb).1,fun k o hk=>by
  obtain ⟨o',h1,_⟩:=hget k o hk;exact (hc1.lay.ex b hb).2 k o' h1⟩⟩,hc1.size,hc1.defers.mono (fun _ _=>rfl) hS1,fun k o hk=>?_,fun t=>⟨hrv (hc1.env t).1 (hc1.env t).2,(hc1.env t).2⟩⟩,fun b hb=>hS1 b ?_⟩
 .rw [ae.gc] at hk;split at hk
  .rename_i e1;cases hk;subst e1;obtain ⟨g,cs,h1,h2,h3,h4,h5⟩:=hc1.lay.objs _ _ hget1;refine ⟨g,cs,h1,h2,h3,by simpa using h4,fun i x av h6 h7=>?_⟩;rw [Wz] at h7;split at h7
   .rename_i e2;subst e2;split at h7
    .cases h7;have h8:=h5 j x _ h6 hj;refine ⟨.osl x _ fun sz' v hk=>?_,h8.2⟩;have hk:=hK _ _ hk;unfold Kx at hk;rw [hnew] at hk;simp at hk;rw [h8.1.c_inv,<- hk.2,hLn]
    .cases h7
   .have h8:=h5 i x av h6 h7;exact ⟨hrv h8.1 (ak.1 (hc1.young _ _ hget1).2 _ (p0 h7)),h8.2⟩
  .have ho:=hc1.lay.objs k o hk;have hy:=(hc1.young k o hk).2
   cases o with
   | box t' cells'=>
    obtain ⟨g,cs,h1,h2,h3,h4,h5⟩:=ho;exact ⟨g,cs,h1,h2,h3,h4,fun i x av h6 h7=>⟨hrv (h5 i x av h6 h7).1 (ak.1 hy _ (p0 h7)),(h5 i x av h6 h7).2⟩⟩
   | row e' sz' rows'=>
    obtain ⟨h1,xs,h2,h3,h4⟩:=ho;refine ⟨h1,xs,h2,h3,fun i j row av h5 h6=>?_⟩;obtain ⟨x,hx,hr⟩:=h4 i j row av h5 h6;exact ⟨x,hx,hr.mono (fun _ _=>rfl) hS1⟩
   | map ents=>exact ho
   | nest e' sz' rows'=>
    obtain ⟨h1,xs,h2,h3,h4⟩:=ho;refine ⟨h1,xs,h2,h3,fun i j row av h5 h6=>?_⟩;obtain ⟨x,hx,hr⟩:=h4 i j row av h5 h6;exact ⟨x,hx,hrv hr (ak.1 (hy row (p0 h5)) _ (p0 h6))⟩
   | ghost vs env=>exact ⟨ho.1,fun t ht=>hrv (ho.2 t ht) (fU hy t)⟩
 .obtain ⟨o1,h3,_⟩:=hget k o h1;obtain ⟨o2,h4,_⟩:=hget k' o' h2;exact hc1.lay.sep k k' o1 o2 g h3 h4
 .rw [ae.gc] at hk;split at hk
  .rename_i e1;cases hk;have hy:=hc1.young id _ hget1;refine ⟨by rw [e1];exact hy.1,ak.2 fun x hx=>?_⟩;rcases Wj hx with hx|rfl
   .exact ak.1 hy.2 x hx
   .exact Wb _
  .exact hc1.young k o hk
 .refine ⟨hb.1,hb.2.1,fun k o hk hg=>?_⟩;rw [<- ht1,ae.gc] at hk;rw [<- hL1] at hg;unfold bq at hg;split at hk
  .rename_i e1;rw [Vn e1] at hg;simp [aO] at hg
  .rename_i e1;rw [Vh e1] at hg;exact hb.2.2 k o hk hg
def UC (P:Program) (rs:List ResultVar) (Post:cM -> Prop) (e:Exit) (st:aj):Prop:=L5 (yW P rs Post e) st
theorem xp {P : Program} (hm : P.follows .mixedOrders = true) {f : FuncId} {fn : Func} {c : Code} (hf : P.funcs[f]? = some fn) (hb : fn.body = some c) (hname : (fn.name == "runtime.NumGoroutine") = false) {args : List AV} {Post : cM → Prop} {n : Nat} (hnt : fn.ntmps = n) {rs : List ResultVar} (hrs : fn.results = rs.toArray) (hn : Nat.ble args.length n = true)
  (h:bB P c (UC P rs Post) ⟨n,dh 0 args,[],0⟩):dt P f args Post:=
 ni hf hb hname hnt hrs hn fun cx a w L hc=>Code.wp_mono (fun e a w ⟨st,L,⟨st',hw,h1⟩,h2⟩=>(hw _ _ _ _ h2).elim fun L' h3=>⟨st',L',h1,h3.1⟩) (oc hm c _ a w _ L hc h)
theorem yr {I:List (List AV) -> aj -> Prop} {Ix:Code -> List (List AV) -> aj -> Prop} {pre:List (List AV)} {st1 st':aj}:Mr I Ix pre st1 .normal st'=L5 (I pre) ⟨st1.n,st1.env,st'.tab,st'.next⟩:=rfl
theorem Jt {I:List (List AV) -> aj -> Prop} {Ix:Code -> List (List AV) -> aj -> Prop} {pre:List (List AV)} {st1 st':aj}:Mr I Ix pre st1 .ret st'=L5 (Ix .ret pre) ⟨st1.n,st1.env,st'.tab,st'.next⟩:=rfl
theorem B7 {st:aj}:jJ [] st=st:=rfl
theorem yU {p:Nat} {av:AV} {l:List (Nat × AV)} {st:aj}:jJ ((p,av) :: l) st=jJ l (st.put (some p) av):=rfl
def Tn:=(And.intro (And.intro @yr (And.intro @Jt @B7)) (And.intro @yU (And.intro @List.zip_cons_cons.{0,0} @List.zip_nil_left.{0,0})))
theorem UZ {Post:cM -> Prop} {st:aj} {r av:AV} (h:Post ⟨r,[],0⟩) (hl:r.lt 0) (hr:r.ren []=av):∃ R,Post R /\ R.Ok /\ fe R st av:=⟨_,h,⟨fun id o h=>(by cases h),hl⟩,⟨[],List.nodup_nil,hr,trivial⟩⟩
end
end
section
section
def gr (E U:Nat):List (List AV):=(List.range E).flatMap fun (e:Nat)=>(List.range U).map fun (u:Nat)=>[eI (e:Int),eI (u:Int)]
theorem lB (e U:Nat):gr (e+1) U=gr e U ++ (List.range U).map fun (u:Nat)=>[eI (e:Int),eI (u:Int)]:=by
 unfold gr;rw [Wu,Wy];simp
theorem Bl {E U:Nat}:∀ {e:Nat},e<=E -> gr e U <+: gr E U:=by
 intro e h;obtain ⟨k,rfl⟩:∃ k,E=e+k:=⟨E - e,by omega⟩;clear h
 induction k with
 | zero=>exact XK
 | succ k ih=>
  rw [<- Wx,lB];exact ih.trans (XF ..)
theorem yu {E U e u:Nat} (he:e<E) (hu:u<=U):gr e U ++ ((List.range u).map fun (u:Nat)=>[eI (e:Int),eI (u:Int)]) <+: gr E U:=by
 refine List.IsPrefix.trans ?_ (Bl (e:=e+1) he);rw [lB];refine List.prefix_append_right_inj _ |>.2 ?_;refine List.IsPrefix.map _ ?_;rw [List.prefix_iff_eq_take];simp [List.take_range,Nat.min_eq_left hu]
theorem qM (e u U:Nat):(gr e U ++ ((List.range u).map fun (u:Nat)=>[eI (e:Int),eI (u:Int)])) ++ [[eI (e:Int),eI (u:Int)]]=gr e U ++ ((List.range (u+1)).map fun (u:Nat)=>[eI (e:Int),eI (u:Int)]):=by
 rw [Wu,VE,VZ];rfl
theorem gQ {E U:Nat} {x:List AV}:x ∈ gr E U ↔ ∃ e u:Nat,e<E /\ u<U /\ x=[eI (e:Int),eI (u:Int)]:=by
 unfold gr;simp only [V6,WS,Vt];constructor
 .rintro ⟨e,he,u,hu,rfl⟩;exact ⟨e,u,he,hu,rfl⟩
 .rintro ⟨e,u,he,hu,rfl⟩;exact ⟨e,he,u,hu,rfl⟩
theorem yp (m:bk) (hl:m.events.length<=1000000) (hl2:m.users.length<=1000000):Ss Tryz.prog 181 [.rp (aW m)] (gr m.events.length m.users.length):=by
 refine wV Tryz.func181 rfl (by decide) Tryz.ntmps181 Tryz.results181 rfl (by kernel_rfl) (by simp [aM,aU]) fun l=>?_
 repeat' first|simp -implicitDefEqProofs (maxSteps:=5000000) only [t5,↓reduceIte,reduceCtorEq,Nat.reduceLT,Nat.reduceEqDiff,Nat.reduceAdd,Nat.reduceMul,Nat.reduceSub,Nat.reduceLeDiff,Nat.reduceBEq,UD]|refine sp ?_ ?_<;>intro _
 refine Av (fun g st=>∃ e:Nat,e<=m.events.length /\ g=(gr e m.users.length,true) /\ st=⟨24,[(0,.c (.func (.yield l) #[] #[])),(1,.rp (aW m)),(7,eI (m.events.length:Int)),(8,eI (e:Int))],[],0⟩) (fun g st=>m.events.length - ax st 8) ⟨_,wC,0,Vg _,rfl,rfl⟩ ?_;rintro _ _ ⟨e,he,rfl,rfl⟩;by_cases he2:e<m.events.length
 .repeat' first|simp -implicitDefEqProofs (maxSteps:=5000000) only [t5,↓reduceIte,reduceCtorEq,Nat.reduceLT,Nat.reduceEqDiff,Nat.reduceAdd,Nat.reduceMul,Nat.reduceSub,Nat.reduceLeDiff,Nat.reduceBEq,UD,he2]|refine sp ?_ ?_<;>intro _
  refine Av (fun g st=>∃ u:Nat,u<=m.users.length /\ g=(gr e m.users.length ++ ((List.range u).map fun (u:Nat)=>[eI (e:Int),eI (u:Int)]),true) /\ st=⟨24,[(0,.c (.func (.yield l) #[] #[])),(1,.rp (aW m)),(3,eI (e:Int)),(7,eI (m.events.length:Int)),(8,eI (e:Int)),(13,eI (m.users.length:Int)),(14,eI (u:Int))],[],0⟩) (fun g st=>m.users.length - ax st 14) ⟨_,wC,0,Vg _,by simp,rfl⟩ ?_;rintro _ _ ⟨u,hu,rfl,rfl⟩;by_cases hu2:u<m.users.length
  .have hp:=yu (u:=u+1) he2 hu2;rw [<- qM] at hp
   repeat' first|simp -implicitDefEqProofs (maxSteps:=5000000) only [t5,↓reduceIte,reduceCtorEq,Nat.reduceLT,Nat.reduceEqDiff,Nat.reduceAdd,Nat.reduceMul,Nat.reduceSub,Nat.reduceLeDiff,Nat.reduceBEq,UD,hu2,Cj,xZ,DL,aM,aU,hp]|refine sp ?_ ?_<;>intro _
   refine ⟨?_,by simp,hp⟩;exact D3 wC ⟨u+1,by omega,by rw [qM],rfl⟩ (by simp only [ax,jn,aj.get,bh,aj.put,↓reduceIte,reduceCtorEq,Nat.reduceLT,Nat.reduceEqDiff,Nat.reduceAdd,Nat.reduceLeDiff,eq_self,implies_true];omega)
  .obtain rfl:u=m.users.length:=by omega
   repeat' first|simp -implicitDefEqProofs (maxSteps:=5000000) only [t5,↓reduceIte,reduceCtorEq,Nat.reduceLT,Nat.reduceEqDiff,Nat.reduceAdd,Nat.reduceMul,Nat.reduceSub,Nat.reduceLeDiff,Nat.reduceBEq,UD,hu2]|refine sp ?_ ?_<;>intro _
   exact D3 wC ⟨e+1,by omega,by rw [lB],rfl⟩ (by simp only [ax,jn,aj.get,bh,aj.put,↓reduceIte,reduceCtorEq,Nat.reduceLT,Nat.reduceEqDiff,Nat.reduceAdd,Nat.reduceLeDiff,eq_self,implies_true];omega)
 .obtain rfl:e=m.events.length:=by omega
  repeat' first|simp -implicitDefEqProofs (maxSteps:=5000000) only [t5,↓reduceIte,reduceCtorEq,Nat.reduceLT,Nat.reduceEqDiff,Nat.reduceAdd,Nat.reduceMul,Nat.reduceSub,Nat.reduceLeDiff,Nat.reduceBEq,UD,he2,TG]|refine sp ?_ ?_<;>intro _
  exact XK
theorem Eb (m:bk):aw Tryz.prog 160 [.agg (aW m)] ⟨.fn 181 [.rp (aW m)],[],0⟩:=by
 refine xp ag Tryz.func160 rfl (by decide) Tryz.ntmps160 Tryz.results160 rfl ?_
 repeat' first|refine go ?_|decide|refine sp ?_ ?_<;>intro _
 refine fF ((wC:dC _ ⟨4,[(2,.fn 181 [.op 0 0 0])],[(0,some (.box 32 (aW m)))],1⟩).trans (M6 0 (ty:=32) (cells:=aW m) (by simp [ae.gc]) (by simp [aM,aU]) (by simp [mu]))) ?_;simp only [nP,AV.rpz,AV.rpzL,↓reduceIte,List.drop_zero]
 repeat' first|decide|refine go ?_
 exact UZ rfl (by simp [AV.lt,AV.ltL]) (by simp [AV.ren,AV.renL])
theorem Pe (m:bk) (s:St) (hl:m.events.length<=1000000) (hl2:m.users.length<=1000000) (hl3:m.miles.length<=1000000) (hl4:m.sods.length<=1000000):aw Tryz.prog 159 [.agg (aW m),.agg (gE s)] (val (.bool (ux m s))):=by
 refine aa ag Tryz.func159 rfl (by decide) Tryz.ntmps159 Tryz.results159 rfl (aL _) ?_
 repeat' first|refine gq ?_|decide|refine sp ?_ ?_<;>intro _|((with_reducible apply cZ (g:=160));exact (Eb m);exact (ro))
 refine Aj ag (fun pre st=>(∀ e u:Nat,[eI (e:Int),eI (u:Int)] ∈ pre -> dV m s (e:Int) (u:Int)=false) /\ st=⟨16,[(2,.op 0 0 0),(3,.op 1 0 0),(4,.op 2 0 0)],[(0,some (.box 32 (aW m))),(1,some (.box 132 (gE s))),(2,some (.box 4 [eB false]))],3⟩)
  (fun c pre st=>c=.ret /\ ux m s=true /\ st=⟨16,[(4,.op 2 0 0)],[(2,some (.box 4 [eB true]))],3⟩) (by simp -implicitDefEqProofs (maxSteps:=5000000) only [t5,↓reduceIte,reduceCtorEq,Nat.reduceLT,Nat.reduceEqDiff,Nat.reduceAdd,Nat.reduceMul,Nat.reduceSub,Nat.reduceLeDiff,Nat.reduceBEq]) (by simp [aM,aU]) (yp m hl hl2) (fun x hx=>by obtain ⟨e,u,_,_,rfl⟩:=gQ.1 hx;rfl) (by kernel_rfl) (by kernel_rfl) (fF wC ⟨by simp,rfl⟩) ?_ ?_ ?_
 .rintro pre x _ hp ⟨hpre,rfl⟩;obtain ⟨e,u,he,hu,rfl⟩:=gQ.1 (hp.subset (show x ∈ pre ++ [x] by simp))
  repeat' first|simp -implicitDefEqProofs (maxSteps:=5000000) only [t5,↓reduceIte,reduceCtorEq,Nat.reduceLT,Nat.reduceEqDiff,Nat.reduceAdd,Nat.reduceMul,Nat.reduceSub,Nat.reduceLeDiff,Nat.reduceBEq,Tn]|refine sp ?_ ?_<;>intro _|(with_reducible refine aA (by kernel_rfl) ?_)|((with_reducible first|apply ay (g:=180)|apply aP (g:=180));exact (uY m s (e:Int) (u:Int) (by omega) (by omega)))
  .rename_i hen;exact fF wC ⟨(fq _ _).2 ⟨e,he,(fq _ _).2 ⟨u,hu,hen⟩⟩,rfl⟩
  .rename_i hen;refine fF wC ⟨fun e' u' hm=>?_,rfl⟩;rcases Vp.1 hm with hm|hm
   .exact hpre e' u' hm
   .simp at hm;obtain ⟨h1,h2⟩:=hm;rw [h1,h2];exact hen
 .rintro _ ⟨hpre,rfl⟩
  repeat' first|simp -implicitDefEqProofs (maxSteps:=5000000) only [t5,↓reduceIte,reduceCtorEq,Nat.reduceLT,Nat.reduceEqDiff,Nat.reduceAdd,Nat.reduceMul,Nat.reduceSub,Nat.reduceLeDiff,Nat.reduceBEq,Tn]|refine sp ?_ ?_<;>intro _|(with_reducible refine aA (by kernel_rfl) ?_)
  symm;rw [Wi];intro ha;obtain ⟨e,he,ha⟩:=(fq _ _).1 ha;obtain ⟨u,hu,ha⟩:=(fq _ _).1 ha;rw [hpre e u (gQ.2 ⟨e,u,he,hu,rfl⟩)] at ha;cases ha
 .rintro _ pre _ hp ⟨rfl,ha,rfl⟩
  repeat' first|simp -implicitDefEqProofs (maxSteps:=5000000) only [t5,↓reduceIte,reduceCtorEq,Nat.reduceLT,Nat.reduceEqDiff,Nat.reduceAdd,Nat.reduceMul,Nat.reduceSub,Nat.reduceLeDiff,Nat.reduceBEq,Tn]|refine sp ?_ ?_<;>intro _|(with_reducible refine aA (by kernel_rfl) ?_)
  exact ha.symm
end
section
theorem jC (m:bk) (s:St) (hl:m.miles.length<=1000000) (hd:aI s.don):aw Tryz.prog 103 [.agg (aW m),.agg (gE s)] (val (.bool (gb m s))):=by
 refine aa ag Tryz.func103 rfl (by decide) Tryz.ntmps103 Tryz.results103 rfl (aL _) ?_
 repeat' first|refine gq ?_|decide|refine sp ?_ ?_<;>intro _
 unfold gb;refine af (fun st=>∃ k:Nat,k<=m.miles.length /\ iO (fV m s) k=false /\ st=⟨25,[(2,.op 0 0 0),(3,.op 1 0 0),(5,eI (k:Int))],[(0,some (.box 32 (aW m))),(1,some (.box 132 (gE s)))],2⟩) (fun st=>m.miles.length - ax st 5) ⟨_,wC,0,Vg _,rfl,rfl⟩ ?_;rintro _ ⟨k,hk,hI,rfl⟩;by_cases hlt:k<m.miles.length
 .have eF:fV m s k=(m.miles[k].final && bp s.don (k:Int)):=by simp [fV,hlt]
  repeat' first|refine gq ?_|simp only [ab,hlt]|decide|refine sp ?_ ?_<;>intro _|((with_reducible first|apply ay (g:=101)|apply aP (g:=101));exact (eJ _ _ hd))
  all_goals first
   | (symm;refine lY hlt ?_;rw [eF];grind)
   | exact rI wC ⟨k+1,by omega,kp hI (by rw [eF];grind),rfl⟩
 .obtain rfl:k=m.miles.length:=by omega
  repeat' first|refine gf @hlt ?_|decide|refine sp ?_ ?_<;>intro _
  exact hI.symm
theorem nf (n most:Int):aw Tryz.prog 140 [eI n,eI most] (val (.bool (eE n most))):=by
 refine aa ag Tryz.func140 rfl (by decide) Tryz.ntmps140 Tryz.results140 rfl (aL _) ?_;unfold eE
 repeat' first|refine go ?_|decide|refine sp ?_ ?_<;>intro _
 all_goals grind
theorem DG (m:bk) (s:St) (event user:Int) (hl:m.miles.length<=1000000) (ho:aI s.opn) (hd:aI s.don) (hr:∀ p ∈ m.roles,aI p.2):aw Tryz.prog 141 [.agg (aW m),.agg (gE s),eI event,eI user] (val (.bool (jw m s event user))):=by
 refine aa ag Tryz.func141 rfl (by decide) Tryz.ntmps141 Tryz.results141 rfl (aL _) ?_;by_cases h:0<=event /\ event<(m.events.length:Int)
 .obtain ⟨k,rfl⟩:∃ k:Nat,event=(k:Int):=⟨event.toNat,by omega⟩;have hk:k<m.events.length:=by omega
  obtain ⟨x,hx⟩:∃ x,m.events[k]=x:=⟨_,rfl⟩;have ee:wg m (k:Int)=some x:=by simp [wg,hk,hx]
  have eR:jw m s k user=(!gb m s && decide (x.stage<(m.stages.length:Int)) && bp s.opn x.stage && A6 m x.role user && (decide (x.times<=0) || decide (rc s.cnt k<x.times))):=by simp only [jw,ee]
  have eN:¬ 0<=x.stage -> bp s.opn x.stage=false:=fun h=>jg _ _ (by omega);rw [eR];by_cases hc:k<s.cnt.length
  .have eA:rc s.cnt k=s.cnt[k]:=(by simp [rc,hc]);by_cases hro:0<=x.role /\ x.role<(m.roles.length:Int)
   .obtain ⟨q,hq⟩:∃ q:Nat,x.role=(q:Int):=⟨x.role.toNat,by omega⟩;have hq2:q<m.roles.length:=(by omega);have eO:A6 m x.role user=(decide (0<=user) && decide (user<(m.users.length:Int)) && bp m.roles[q].2 user):=(by simp [A6,hq,hq2]);have hrq:=hr _ (Vf hq2);rw [eA,eO];unfold eE at *
    repeat' first|refine gq ?_|simp only [ab,hk,hx,hc,hq,hq2]|decide|refine sp ?_ ?_<;>intro _|((with_reducible first|apply ay (g:=101)|apply aP (g:=101));exact (eJ _ _ ho))|((with_reducible first|apply ay (g:=101)|apply aP (g:=101));exact (eJ _ _ hrq))|((with_reducible first|apply ay (g:=103)|apply aP (g:=103));exact (jC _ _ hl hd))|((with_reducible first|apply ay (g:=140)|apply aP (g:=140));exact (nf _ _))
    all_goals (unfold eE at *;grind)
   .have eO:A6 m x.role user=false:=by
     have:(decide (0<=x.role) && decide (x.role<(m.roles.length:Int)))=false:=by
      rw [VW];simp only [Vx];omega
     simp [A6,this]
    have eI':eE x.role (m.roles.length:Int)=false:=by unfold eE;grind
    rw [eA,eO]
    repeat' first|refine gq ?_|simp only [ab,hk,hx,hc,eI']|decide|refine sp ?_ ?_<;>intro _|((with_reducible first|apply ay (g:=101)|apply aP (g:=101));exact (eJ _ _ ho))|((with_reducible first|apply ay (g:=103)|apply aP (g:=103));exact (jC _ _ hl hd))|((with_reducible first|apply ay (g:=140)|apply aP (g:=140));exact (nf _ _))
    all_goals (unfold eE at *;grind)
  .have eA:rc s.cnt k=0:=by simp [rc];omega
   by_cases hro:0<=x.role /\ x.role<(m.roles.length:Int)
   .obtain ⟨q,hq⟩:∃ q:Nat,x.role=(q:Int):=⟨x.role.toNat,by omega⟩;have hq2:q<m.roles.length:=(by omega);have eO:A6 m x.role user=(decide (0<=user) && decide (user<(m.users.length:Int)) && bp m.roles[q].2 user):=(by simp [A6,hq,hq2]);have hrq:=hr _ (Vf hq2);rw [eA,eO]
    repeat' first|refine gq ?_|simp only [ab,hk,hx,hc,hq,hq2]|decide|refine sp ?_ ?_<;>intro _|((with_reducible first|apply ay (g:=101)|apply aP (g:=101));exact (eJ _ _ ho))|((with_reducible first|apply ay (g:=101)|apply aP (g:=101));exact (eJ _ _ hrq))|((with_reducible first|apply ay (g:=103)|apply aP (g:=103));exact (jC _ _ hl hd))|((with_reducible first|apply ay (g:=140)|apply aP (g:=140));exact (nf _ _))
    all_goals (unfold eE at *;grind)
   .have eO:A6 m x.role user=false:=by
     have:(decide (0<=x.role) && decide (x.role<(m.roles.length:Int)))=false:=by
      rw [VW];simp only [Vx];omega
     simp [A6,this]
    have eI':eE x.role (m.roles.length:Int)=false:=by unfold eE;grind
    rw [eA,eO]
    repeat' first|refine gq ?_|simp only [ab,hk,hx,hc,eI']|decide|refine sp ?_ ?_<;>intro _|((with_reducible first|apply ay (g:=101)|apply aP (g:=101));exact (eJ _ _ ho))|((with_reducible first|apply ay (g:=103)|apply aP (g:=103));exact (jC _ _ hl hd))|((with_reducible first|apply ay (g:=140)|apply aP (g:=140));exact (nf _ _))
    all_goals (unfold eE at *;grind)
 .have ee:wg m event=none:=by
   unfold wg;split
   .exact Vs (by omega)
   .rfl
  have eR:jw m s event user=false:=by simp only [jw,ee]
  have eI':eE event (m.events.length:Int)=false:=by unfold eE;grind
  rw [eR]
  repeat' first|refine gf eI' ?_|decide|refine sp ?_ ?_<;>intro _|((with_reducible first|apply ay (g:=140)|apply aP (g:=140));exact (nf _ _))
end
section
theorem JO (s:St) (event user:Int) (hd:∀ x ∈ s.did,aI x):aw Tryz.prog 102 [.agg (gE s),eI event,eI user] (val (.bool (bp (rc s.did event) user))):=by
 refine aa ag Tryz.func102 rfl (by decide) Tryz.ntmps102 Tryz.results102 rfl (aL _) ?_;by_cases h:0<=event /\ event<(s.did.length:Int)
 .obtain ⟨k,rfl⟩:∃ k:Nat,event=(k:Int):=⟨event.toNat,by omega⟩;have hk:k<s.did.length:=by omega
  have eA:rc s.did k=s.did[k]:=by simp [rc,hk]
  have eI':eE (k:Int) (s.did.length:Int)=true:=by unfold eE;simp;omega
  rw [eA]
  repeat' first|refine gq ?_|simp only [ab,hk,eI']|decide|refine sp ?_ ?_<;>intro _|((with_reducible first|apply ay (g:=140)|apply aP (g:=140));exact (nf _ _))|((with_reducible first|apply ay (g:=101)|apply aP (g:=101));exact (eJ _ _ (hd _ (Vf hk))))
 .have eA:rc s.did event=0:=by unfold rc;rw [Vh h]
  have eI':eE event (s.did.length:Int)=false:=by unfold eE;grind
  have eB':bp 0 user=false:=by simp [bp]
  rw [eA,eB']
  repeat' first|refine gf eI' ?_|decide|refine sp ?_ ?_<;>intro _|((with_reducible first|apply ay (g:=140)|apply aP (g:=140));exact (nf _ _))
theorem CK (m:bk) (s:St) (event user:Int) (hl:m.miles.length<=1000000) (hl2:m.sods.length<=1000000) (ho:aI s.opn) (hd:aI s.don) (hr:∀ p ∈ m.roles,aI p.2) (hdid:∀ x ∈ s.did,aI x):aw Tryz.prog 119 [.agg (aW m),.agg (gE s),eI event,eI user] (val (.bool (dV m s event user))):=by
 refine aa ag Tryz.func119 rfl (by decide) Tryz.ntmps119 Tryz.results119 rfl (aL _) ?_;unfold dV
 cases hfr:jw m s event user with
 | false=>
  repeat' first|refine gf @hfr ?_|decide|refine sp ?_ ?_<;>intro _|((with_reducible first|apply ay (g:=141)|apply aP (g:=141));exact (DG m s event user hl ho hd hr))
  rfl
 | true=>
  repeat' first|refine gf @hfr ?_|decide|refine sp ?_ ?_<;>intro _|((with_reducible first|apply ay (g:=141)|apply aP (g:=141));exact (DG m s event user hl ho hd hr))
  unfold wL;refine af (fun st=>∃ k:Nat,k<=m.sods.length /\ iO (jE m s event user) k=false /\ st=⟨57,[(2,eI event),(3,eI user),(4,.op 0 0 0),(5,.op 1 0 0),(9,eI (k:Int))],[(0,some (.box 32 (aW m))),(1,some (.box 132 (gE s)))],2⟩) (fun st=>m.sods.length - ax st 9) ⟨_,wC,0,Vg _,rfl,rfl⟩ ?_;rintro _ ⟨k,hk,hI,rfl⟩;by_cases hlt:k<m.sods.length
  .obtain ⟨⟨a,b⟩,hx⟩:∃ x,m.sods[k]=x:=⟨_,rfl⟩;have ex:Tu m.sods[k]=[eI a,eI b]:=(by rw [hx]);have eF:jE m s event user k=(((a == event) && bp (rc s.did b) user) || ((b == event) && bp (rc s.did a) user)):=(by simp [jE,hlt,hx])
   repeat' first|refine ge @hlt ?_|decide|refine sp ?_ ?_<;>intro _
   refine ap [] [0,1,2,3,4,5,6,7,8,9,10,11] (.exec 12 (.exec 13 .done)) (by kernel_rfl) (by simp [ae.gc]) ?_
   repeat' first|refine gq ?_|simp only [ab,hlt,ex]|decide|refine sp ?_ ?_<;>intro _|((with_reducible first|apply ay (g:=102)|apply aP (g:=102));exact (JO s b user hdid))|((with_reducible first|apply ay (g:=102)|apply aP (g:=102));exact (JO s a user hdid))
   all_goals first
    | (rw [show iO (jE m s event user) m.sods.length=true from lY hlt (by rw [eF];grind)];rfl)
    | exact rI wC ⟨k+1,by omega,kp hI (by rw [eF];grind),rfl⟩
  .obtain rfl:k=m.sods.length:=by omega
   repeat' first|refine gf @hlt ?_|decide|refine sp ?_ ?_<;>intro _
   rw [hI];rfl
theorem KE (m:bk) (s:St) (event:Int) (hl:m.miles.length<=1000000) (hl2:m.sods.length<=1000000) (hl3:m.users.length<=1000000) (ho:aI s.opn) (hd:aI s.don) (hr:∀ p ∈ m.roles,aI p.2) (hdid:∀ x ∈ s.did,aI x):aw Tryz.prog 75 [.agg (aW m),.agg (gE s),eI event] (iZ 3 1 ((fA m s event).map fun n=>[eI n])):=by
 refine aa ag Tryz.func75 rfl (by decide) Tryz.ntmps75 Tryz.results75 rfl (cT _ _ _) ?_
 repeat' first|refine go ?_|decide|refine sp ?_ ?_<;>intro _
 unfold fA;obtain ⟨f,hf⟩:∃ f:Nat -> Bool,f=fun u:Nat=>dV m s event (u:Int):=⟨_,rfl⟩;rw [<- hf];have e0:dR f 0=[]:=rfl;refine af (fun st=>∃ k:Nat,k<=m.users.length /\ st=⟨26,[(2,eI event),(3,.op 0 0 0),(4,.op 1 0 0),(7,.osl 2),(8,eI (k:Int))],[(0,some (.box 32 (aW m))),(1,some (.box 132 (gE s))),(2,some (.row 3 1 ((dR f k).map fun n=>[eI n])))],3⟩) (fun st=>m.users.length - ax st 8) ⟨_,((bA 7 3 1 (by simp only [jn,aj.get,bh,aj.put,↓reduceIte,reduceCtorEq,Nat.reduceLT,Nat.reduceEqDiff,Nat.reduceAdd,Nat.reduceLeDiff,eq_self,implies_true,e0,VP])).trans (wS [0,1,2] e0)),0,Vg _,rfl⟩ ?_;rintro _ ⟨k,hk,rfl⟩;have hlen:=ms f k;by_cases hlt:k<m.users.length
 .have hef:dV m s event (k:Int)=f k:=by rw [hf]
  repeat' first|refine gf @hlt ?_|decide|refine sp ?_ ?_<;>intro _|((refine ay (CK m s event (k:Int) hl hl2 ho hd hr hdid) ?_;rw [hef]))
  .rename_i h
   have et:(dR f (k+1)).map (fun n=>[eI n])=(dR f k).map (fun n=>[eI n]) ++ [[eI (k:Int)]]:=by
    rw [dR,Vn h];simp
   refine ⟨rfl,by omega,rI (wS [0,1,4] et) ⟨k+1,by omega,rfl⟩⟩
  .rename_i h
   have et:dR f (k+1)=dR f k:=by
    rw [dR,Vh (by simp [h])]
   exact rI (wE et) ⟨k+1,by omega,rfl⟩
 .obtain rfl:k=m.users.length:=by omega
  repeat' first|refine gf @hlt ?_|decide|refine sp ?_ ?_<;>intro _
  exact aY (by simp [ae.gc])
theorem uD (f:Nat -> Bool):∀ n,decide (0<((dR f n).length:Int))=iO f n
 | 0=>rfl
 | n+1=>by
  have:=uD f n;unfold dR iO;split
  .rename_i h;simp [h]
  .rename_i h;simp only [h,Bool.or_false,this]
theorem QI (m:bk) (s:St) (hle:m.events.length<=1000000) (hl:m.miles.length<=1000000) (hl2:m.sods.length<=1000000) (hl3:m.users.length<=1000000) (ho:aI s.opn) (hd:aI s.don) (hr:∀ p ∈ m.roles,aI p.2) (hdid:∀ x ∈ s.did,aI x):aw Tryz.prog 79 [.agg (aW m),.agg (gE s)] (val (.bool (ux m s))):=by
 refine aa ag Tryz.func79 rfl (by decide) Tryz.ntmps79 Tryz.results79 rfl (aL _) ?_
 repeat' first|refine go ?_|decide|refine sp ?_ ?_<;>intro _
 unfold ux;obtain ⟨f,hf⟩:∃ f:Nat -> Bool,f=fun e:Nat=>iO (fun u=>dV m s (e:Int) (u:Int)) m.users.length:=⟨_,rfl⟩;rw [<- hf];refine af (fun st=>∃ k:Nat,k<=m.events.length /\ iO f k=false /\ st=⟨19,[(2,.op 0 0 0),(3,.op 1 0 0),(5,eI (k:Int))],[(0,some (.box 32 (aW m))),(1,some (.box 132 (gE s)))],2⟩) (fun st=>m.events.length - ax st 5) ⟨_,wC,0,Vg _,rfl,rfl⟩ ?_;rintro _ ⟨k,hk,hI,rfl⟩;by_cases hlt:k<m.events.length
 .have hef:decide (0<((fA m s (k:Int)).length:Int))=f k:=by rw [hf];exact uD _ _
  repeat' first|refine gf @hlt ?_|decide|refine sp ?_ ?_<;>intro _|((with_reducible apply dM (g:=75));exact (KE m s (k:Int) hl hl2 hl3 ho hd hr hdid);exact (.inr fr))
  all_goals rename_i h
  all_goals simp only [Vo,hef] at h
  .symm;exact lY hlt h
  .exact rI wC ⟨k+1,by omega,kp hI h,rfl⟩
 .obtain rfl:k=m.events.length:=by omega
  repeat' first|refine gf @hlt ?_|decide|refine sp ?_ ?_<;>intro _
  exact hI.symm
end
section
theorem kZ (n:Nat):jG (n:Int)=((2 ^ (min n 31) - 1:Nat):Int):=by
 have h1:(max 0 (min (n:Int) 31)).toNat=min n 31:=by omega
 have h2:0<2 ^ (min n 31):=Nat.two_pow_pos _;unfold jG;rw [h1];generalize min n 31=k at *;have:((2 ^ k:Nat):Int)=(2:Int) ^ k:=by simp
 omega
theorem zn (s:Int) (n:Nat) (hs:0<=s /\ s<2147483648):FU s (n:Int)=true ↔ ∀ i:Nat,n<=i -> i<31 -> bp s (i:Int)=false:=by
 obtain ⟨q,rfl⟩:∃ q:Nat,s=(q:Int):=⟨s.toNat,by omega⟩;have hq:q<2 ^ 31:=by omega
 have hl:kR (q:Int)=q:=by
  simp only [kR];omega
 unfold FU;rw [kZ];have h2:0<2 ^ (min n 31):=Nat.two_pow_pos _;constructor
 .intro h i h3 h4;simp at h;have hlt:q<2 ^ (min n 31):=by omega
  rw [cS _ _ h4,hl];refine WG (Vm hlt ?_);exact VU (by omega) (by omega)
 .intro h
  have hlt:q<2 ^ (min n 31):=by
   refine Nat.lt_pow_two_of_testBit _ fun i hi=>?_;by_cases h31:i<31
   .have:=h i (by omega) h31
    rwa [cS _ _ h31,hl] at this
   .refine WG (Vm hq ?_);exact VU (by omega) (by omega)
  simp;omega
theorem u0 (n:Nat):jG (n:Int)<2147483648:=by
 rw [kZ];have:2 ^ (min n 31)<=2 ^ 31:=VU (by omega) (by omega);have h2:0<2 ^ (min n 31):=Nat.two_pow_pos _;omega
theorem pw {s:Int} {n:Nat} (h:FU s (n:Int)=true):cN s:=by
 unfold FU at h;simp at h;have:=u0 n;unfold cN;omega
theorem tH (s:Int) (n:Nat) (hs:aI s):aw Tryz.prog 145 [eI s,eI (n:Int)] (val (.bool (FU s (n:Int)))):=by
  refine aa ag Tryz.func145 rfl (by decide) Tryz.ntmps145 Tryz.results145 rfl (aL _) ?_
  repeat' first|refine go ?_|decide|refine sp ?_ ?_<;>intro _
  refine af (fun st=>∃ k:Nat,k<=31 /\ (∀ i:Nat,n<=i -> i<k -> bp s (i:Int)=false) /\ st=⟨24,[(0,eI s),(1,eI (n:Int)),(5,eI (k:Int))],[],0⟩) (fun st=>31 - ax st 5) ⟨_,wC,0,Vg _,by simp,rfl⟩ ?_;rintro _ ⟨k,hk,hI,rfl⟩;by_cases hlt:k<31
  . have h31:(k:Int)<31:=by omega
    repeat' first|refine gf h31 ?_|decide|refine sp ?_ ?_<;>intro _|((with_reducible first|apply ay (g:=101)|apply aP (g:=101));exact (eJ _ _ hs))
    all_goals first
      | (rename_i h1 h2
         simp at h1;symm;rw [Wi];intro hof;have:=(zn s n (pw hof)).1 hof k (by omega) hlt;rw [this] at h2;cases h2)
      | (rename_i h1 h2
         simp at h1;refine rI wC ⟨k+1,by omega,fun i hi hi2=>?_,rfl⟩;rcases Vv i k with h3|h3
         . exact hI i hi h3
         . obtain rfl:i=k:=by omega
           exact h2)
      | (rename_i h1
         simp at h1;refine rI wC ⟨k+1,by omega,fun i hi hi2=>?_,rfl⟩;exact hI i hi (by omega))
  . obtain rfl:k=31:=by omega
    have h31:(((31:Nat):Int)<31)=False:=by simp
    repeat' first|refine gf h31 ?_|decide|refine sp ?_ ?_<;>intro _
    . rename_i h1;simp at h1;by_cases h2:s<=2147483647
      . rw [(zn s n ⟨h1,by omega⟩).2 hI];simp [h2]
      . have h3:FU s (n:Int)=false:=by
          rw [Wi];intro hof;have:=pw hof;unfold cN at this;omega
        rw [h3];simp [h2]
    . rename_i h1;simp at h1;symm;rw [Wi];intro hof;have:=pw hof;unfold cN at this;omega
theorem Jj (m:bk) (s:St) (hl:m.events.length<=1000000) (ho:aI s.opn) (hd:aI s.don) (hdid:∀ x ∈ s.did,aI x):aw Tryz.prog 114 [.agg (aW m),.agg (gE s)] (val (.bool (yk m s))):=by
 refine aa ag Tryz.func114 rfl (by decide) Tryz.ntmps114 Tryz.results114 rfl (aL _) ?_;by_cases hsz:s.vals.length=m.attrs.length /\ s.did.length=m.events.length /\ s.cnt.length=m.events.length
 .obtain ⟨h1,h2,h3⟩:=hsz;have n1:(((s.vals.length:Nat):Int) != ((m.attrs.length:Nat):Int))=false:=by simp [h1]
  have n2:(((s.did.length:Nat):Int) != ((m.events.length:Nat):Int))=false:=by simp [h2]
  have n3:(((s.cnt.length:Nat):Int) != ((m.events.length:Nat):Int))=false:=by simp [h3]
  have hall:yk m s=(FU s.opn m.stages.length && FU s.don m.miles.length && oY (AB m s) m.events.length):=by simp [yk,h1,h2,h3]
  rw [hall];obtain ⟨f,hf⟩:∃ f,f=AB m s:=⟨_,rfl⟩;rw [<- hf];have e0:oY f 0=true:=rfl
  have loop:∀ (b0:Bool) (k:Nat),k<m.events.length -> ∀ b,(b0 && oY f k)=b -> (b0 && oY f (k+1))=(b && f k):=fun b0 k hk b hb=>by
   rw [<- hb];simp [oY,Bool.and_assoc]
  repeat' first|refine gf (kf n1 (kf n2 n3)) ?_|decide|refine sp ?_ ?_<;>intro _|((with_reducible first|apply ay (g:=145)|apply aP (g:=145));exact (tH _ _ ho))|((with_reducible first|apply ay (g:=145)|apply aP (g:=145));exact (tH _ _ hd))
  .rename_i h;rw [h,V4];obtain ⟨b0,hb0⟩:∃ b,FU s.don m.miles.length=b:=⟨_,rfl⟩;rw [hb0];refine af (fun st=>∃ k:Nat,k<=m.events.length /\ st=⟨86,[(2,.op 0 0 0),(3,.op 1 0 0),(5,eI (m.events.length:Int)),(6,eB (b0 && oY f k)),(7,eI (k:Int))],[(0,some (.box 32 (aW m))),(1,some (.box 132 (gE s)))],2⟩) (fun st=>m.events.length - ax st 7) ⟨_,(wE (kf hb0 (kf e0 @Bool.and_true))),0,Vg _,rfl⟩ ?_;rintro _ ⟨k,hk,rfl⟩;by_cases hlt:k<m.events.length
   .have hd':k<s.did.length:=(by omega);have hc:k<s.cnt.length:=(by omega);have eF:f k=(FU s.did[k] m.users.length && decide (0<=s.cnt[k]) && decide (s.cnt[k]<=m.events[k].times)):=by rw [hf];simp [AB,hd',hc,hlt]
    have hs:=loop b0 k hlt;obtain ⟨b,hb⟩:∃ b,(b0 && oY f k)=b:=⟨_,rfl⟩;have hs:=hs b hb;rw [hb]
    repeat' first|refine gq ?_|simp only [ab,hlt,hd',hc]|decide|refine sp ?_ ?_<;>intro _|((with_reducible first|apply ay (g:=145)|apply aP (g:=145));exact (tH _ _ (hdid _ (Vf hd'))))
    .have hv:(b0 && oY f (k+1))=decide (s.cnt[k]<=m.events[k].times):=(by grind);exact rI (wE hv) ⟨k+1,by omega,rfl⟩
    all_goals
     have hv:(b0 && oY f (k+1))=false:=(by grind);exact rI (wE hv) ⟨k+1,by omega,rfl⟩
   .obtain rfl:k=m.events.length:=by omega
    repeat' first|refine gf @hlt ?_|decide|refine sp ?_ ?_<;>intro _
  .rename_i h;rw [h];refine af (fun st=>∃ k:Nat,k<=m.events.length /\ st=⟨86,[(2,.op 0 0 0),(3,.op 1 0 0),(5,eI (m.events.length:Int)),(6,eB false),(7,eI (k:Int))],[(0,some (.box 32 (aW m))),(1,some (.box 132 (gE s)))],2⟩) (fun st=>m.events.length - ax st 7) ⟨_,wC,0,Vg _,rfl⟩ ?_;rintro _ ⟨k,hk,rfl⟩;by_cases hlt:k<m.events.length
   .repeat' first|refine gf @hlt ?_|decide|refine sp ?_ ?_<;>intro _
    all_goals exact rI wC ⟨k+1,by omega,rfl⟩
   .obtain rfl:k=m.events.length:=by omega
    repeat' first|refine gf @hlt ?_|decide|refine sp ?_ ?_<;>intro _
    simp
 .have hall:yk m s=false:=by
   unfold yk;rw [Wi];simp only [ne_eq,Vw,VG]
   grind
  rw [hall]
  repeat' first|refine gq ?_|decide|refine sp ?_ ?_<;>intro _
  all_goals first
   | rfl
   | (exfalso;grind)
end
section
theorem Po (m:bk) (s:St) (event:Int) (hl:m.miles.length<=1000000) (hl2:m.sods.length<=1000000) (hl3:m.users.length<=1000000):aw Tryz.prog 130 [.agg (aW m),.agg (gE s),eI event] (val (.bool (decide (0<((fA m s event).length:Int))))):=by
 refine aa ag Tryz.func130 rfl (by decide) Tryz.ntmps130 Tryz.results130 rfl (aL _) ?_
 repeat' first|refine gq ?_|decide|refine sp ?_ ?_<;>intro _|((with_reducible apply dM (g:=157));exact (Ur m s event hl hl2 hl3);exact (.inr fr))
noncomputable def qn (m:bk) (s:St):Bool:=iO (fun i=>bp s.opn (i:Int)) m.stages.length
noncomputable def xK (m:bk) (s:St):Bool:=iO (fun e=>iO (fun u=>jw m s (e:Int) (u:Int)) m.users.length) m.events.length
noncomputable def lU (m:bk) (s:St):Bool:=qn m s && xK m s && !ux m s
theorem Mw (a:Int) (b:Nat) (hb:b<2147483648):bits .and .i64 a (b:Int)=((kR a &&& b:Nat):Int):=by
 show IntKind.i64.wrap ((BitVec.ofInt 64 a &&& BitVec.ofInt 64 (b:Int)).toNat:Int)=_;have hbb:b &&& (2 ^ 31 - 1)=b:=by rw [Nat.and_two_pow_sub_one_eq_mod];omega
 have h:(BitVec.ofInt 64 a &&& BitVec.ofInt 64 (b:Int)).toNat=kR a &&& b:=by
  rw [BitVec.toNat_and,ig b (by omega),BitVec.toNat_ofInt]
  have e:kR a=(a % ((2 ^ 64:Nat):Int)).toNat &&& (2 ^ 31 - 1):=by
   rw [Nat.and_two_pow_sub_one_eq_mod];unfold kR;omega
  rw [e,Nat.and_assoc,Nat.and_comm (2 ^ 31 - 1) b,hbb]
 rw [h];exact tU _ (XD Nat.and_le_right (by omega))
theorem Kw (m:bk) (s:St):(bits .and .i64 s.opn (jG (m.stages.length:Int)) == 0) = !qn m s:=by
 rw [kZ,Mw _ _ (by have:=u0 m.stages.length;rw [kZ] at this;omega)];rw [Wo]
 have key:(kR s.opn &&& (2 ^ min m.stages.length 31 - 1)=0) ↔ ¬ qn m s=true:=by
  unfold qn;rw [fq];constructor
  .rintro h ⟨i,hi,hh⟩;by_cases h31:i<31
   .rw [cS _ _ h31] at hh
    have:(kR s.opn &&& (2 ^ min m.stages.length 31 - 1)).testBit i=true:=by
     rw [Nat.testBit_and,hh,WQ];simp;omega
    rw [h] at this;simp at this
   .rw [jg _ _ (by omega)] at hh;cases hh
  .intro h;apply Xr;intro i;rw [Nat.testBit_and,WQ,Nat.zero_testBit];by_cases hi:i<min m.stages.length 31
   .cases hb:(kR s.opn).testBit i
    .rfl
    .exact absurd ⟨i,by omega,by rw [cS _ _ (by omega),hb]⟩ h
   .simp [hi]
 rw [Wv,Xq,<- Bool.not_eq_true,<- key];omega
theorem Dw (m:bk) (s:St) (hl:m.events.length<=1000000) (hl2:m.users.length<=1000000) (hl3:m.miles.length<=1000000) (hl4:m.sods.length<=1000000):aw Tryz.prog 132 [.agg (aW m),.agg (gE s)] (val (.bool (lU m s))):=by
 refine aa ag Tryz.func132 rfl (by decide) Tryz.ntmps132 Tryz.results132 rfl (aL _) ?_;have ho:=Kw m s;by_cases h1:qn m s=true
 .have hn:(!qn m s)=false:=by rw [h1];rfl
  by_cases h2:ux m s=true
  .have hv:lU m s=false:=by unfold lU;rw [h2];simp
   have ha:=Pe m s hl hl2 hl3 hl4;rw [h2] at ha
   repeat' first|refine gf (kf ho (kf hn hv)) ?_|decide|refine sp ?_ ?_<;>intro _|((with_reducible first|apply ay (g:=158)|apply aP (g:=158));exact (wv (m.stages.length:Int)))|refine cA ha ?_|fail
  .have h2:ux m s=false:=(by simpa using h2);have hv:lU m s=xK m s:=by unfold lU;rw [h1,h2];simp
   have ha:=Pe m s hl hl2 hl3 hl4;rw [h2] at ha;rw [hv]
   repeat' first|refine gf (kf ho hn) ?_|decide|refine sp ?_ ?_<;>intro _|((with_reducible first|apply ay (g:=158)|apply aP (g:=158));exact (wv (m.stages.length:Int)))|refine cA ha ?_|((with_reducible apply cZ (g:=160));exact (Eb m);exact (ro))
   refine Aj ag (fun pre st=>(∀ e u:Nat,[eI (e:Int),eI (u:Int)] ∈ pre -> jw m s (e:Int) (u:Int)=false) /\ st=⟨29,[(2,.op 0 0 0),(3,.op 1 0 0),(4,.op 2 0 0)],[(0,some (.box 32 (aW m))),(1,some (.box 132 (gE s))),(2,some (.box 4 [eB false]))],3⟩)
    (fun c pre st=>c=.ret /\ xK m s=true /\ st=⟨29,[(4,.op 2 0 0)],[(2,some (.box 4 [eB true]))],3⟩) (by simp -implicitDefEqProofs (maxSteps:=5000000) only [t5,↓reduceIte,reduceCtorEq,Nat.reduceLT,Nat.reduceEqDiff,Nat.reduceAdd,Nat.reduceMul,Nat.reduceSub,Nat.reduceLeDiff,Nat.reduceBEq]) (by simp [aM,aU]) (yp m hl hl2) (fun x hx=>by obtain ⟨e,u,_,_,rfl⟩:=gQ.1 hx;rfl) (by kernel_rfl) (by kernel_rfl) (fF wC ⟨by simp,rfl⟩) ?_ ?_ ?_
   .rintro pre x _ hp ⟨hpre,rfl⟩;obtain ⟨e,u,he,hu,rfl⟩:=gQ.1 (hp.subset (show x ∈ pre ++ [x] by simp))
    repeat' first|simp -implicitDefEqProofs (maxSteps:=5000000) only [t5,↓reduceIte,reduceCtorEq,Nat.reduceLT,Nat.reduceEqDiff,Nat.reduceAdd,Nat.reduceMul,Nat.reduceSub,Nat.reduceLeDiff,Nat.reduceBEq,Tn]|refine sp ?_ ?_<;>intro _|(with_reducible refine aA (by kernel_rfl) ?_)|((with_reducible first|apply ay (g:=161)|apply aP (g:=161));exact (Lp m s (e:Int) (u:Int) hl3))
    .rename_i hen;exact fF wC ⟨(fq _ _).2 ⟨e,he,(fq _ _).2 ⟨u,hu,hen⟩⟩,rfl⟩
    .rename_i hen;refine fF wC ⟨fun e' u' hm=>?_,rfl⟩;rcases Vp.1 hm with hm|hm
     .exact hpre e' u' hm
     .simp at hm;obtain ⟨h1,h2⟩:=hm;rw [h1,h2];exact hen
   .rintro _ ⟨hpre,rfl⟩
    repeat' first|simp -implicitDefEqProofs (maxSteps:=5000000) only [t5,↓reduceIte,reduceCtorEq,Nat.reduceLT,Nat.reduceEqDiff,Nat.reduceAdd,Nat.reduceMul,Nat.reduceSub,Nat.reduceLeDiff,Nat.reduceBEq,Tn]|refine sp ?_ ?_<;>intro _|(with_reducible refine aA (by kernel_rfl) ?_)
    symm;rw [Wi];intro ha;obtain ⟨e,he,ha⟩:=(fq _ _).1 ha;obtain ⟨u,hu,ha⟩:=(fq _ _).1 ha;rw [hpre e u (gQ.2 ⟨e,u,he,hu,rfl⟩)] at ha;cases ha
   .rintro _ pre _ hp ⟨rfl,ha,rfl⟩
    repeat' first|simp -implicitDefEqProofs (maxSteps:=5000000) only [t5,↓reduceIte,reduceCtorEq,Nat.reduceLT,Nat.reduceEqDiff,Nat.reduceAdd,Nat.reduceMul,Nat.reduceSub,Nat.reduceLeDiff,Nat.reduceBEq,Tn]|refine sp ?_ ?_<;>intro _|(with_reducible refine aA (by kernel_rfl) ?_)
    exact ha.symm
 .have h1:qn m s=false:=by simpa using h1
  have hn:(!qn m s)=true:=by rw [h1];rfl
  have hv:lU m s=false:=by unfold lU;rw [h1];simp
  repeat' first|refine gf (kf ho (kf hn hv)) ?_|decide|refine sp ?_ ?_<;>intro _|((with_reducible first|apply ay (g:=158)|apply aP (g:=158));exact (wv (m.stages.length:Int)))
end
section
noncomputable def jM (m:bk) (s:St) (x:ah):Option Bool:=
 if x.op=1 then some true else if x.op=2 then some false else if x.op=9 then some (bp s.opn x.n) else if x.op=10 then some (bp s.don x.n)
 else if x.op=11 then some (decide (0<((fA m s x.n).length:Int))) else if x.op=12 then some (bp (rc s.did x.n) x.u)
 else if x.op=13 then some (gb m s) else if x.op=14 then some (lU m s) else none
theorem O0 (m:bk) (s:St) (x:ah) (hl:m.events.length<=1000000) (hl2:m.users.length<=1000000) (hl3:m.miles.length<=1000000) (hl4:m.sods.length<=1000000):aw Tryz.prog 91 [.agg (aW m),.agg (gE s),.agg (bX x)] ⟨.tup [eB (jf (jM m s x)),eB (jM m s x).isSome],[],0⟩:=by
 have hok:(⟨.tup [eB (jf (jM m s x)),eB (jM m s x).isSome],[],0⟩:cM).Ok:=⟨fun id o h=>(by cases h),by simp [AV.lt,AV.ltL]⟩;refine aa ag Tryz.func91 rfl (by decide) Tryz.ntmps91 Tryz.results91 rfl (hok) ?_;obtain ⟨op,la,ln,ra,rn,n,u⟩:=x;by_cases h12:0<=n /\ n<(s.did.length:Int)
 .obtain ⟨q,rfl⟩:∃ q:Nat,n=(q:Int):=⟨n.toNat,by omega⟩;have hq:q<s.did.length:=by omega
  have hat:rc s.did (q:Int)=s.did[q]:=by
   unfold rc;rw [Vn h12];simp [hq]
  repeat' first|refine gq ?_|simp only [ab,hq]|decide|refine sp ?_ ?_<;>intro _|((with_reducible first|apply ay (g:=130)|apply aP (g:=130));exact (Po m s q hl3 hl4 hl2))|((with_reducible first|apply ay (g:=131)|apply aP (g:=131));exact (lh m s hl3))|((with_reducible first|apply ay (g:=132)|apply aP (g:=132));exact (Dw m s hl hl2 hl3 hl4))|((with_reducible first|apply ay (g:=129)|apply aP (g:=129));exact (mT s.opn q))|((with_reducible first|apply ay (g:=129)|apply aP (g:=129));exact (mT s.don q))|((with_reducible first|apply ay (g:=129)|apply aP (g:=129));exact (mT s.did[q] u))
  all_goals first
   | (refine aX ?_;simp_all [jM,AV.ren,AV.renL,jf];done)
   | (refine aX ?_;simp_all [jM,AV.ren,AV.renL,jf];omega)
 .have hat:bp (rc s.did n) u=false:=by
   unfold rc;rw [Vh h12];simp [bp]
  repeat' first|refine gq ?_|decide|refine sp ?_ ?_<;>intro _|((with_reducible first|apply ay (g:=130)|apply aP (g:=130));exact (Po m s n hl3 hl4 hl2))|((with_reducible first|apply ay (g:=131)|apply aP (g:=131));exact (lh m s hl3))|((with_reducible first|apply ay (g:=132)|apply aP (g:=132));exact (Dw m s hl hl2 hl3 hl4))|((with_reducible first|apply ay (g:=129)|apply aP (g:=129));exact (mT s.opn n))|((with_reducible first|apply ay (g:=129)|apply aP (g:=129));exact (mT s.don n))
  all_goals first
   | (refine aX ?_;simp_all [jM,AV.ren,AV.renL,jf];done)
   | (exfalso;simp at *;omega)
end
end
section
section
theorem AJ (l:List Int) (hl:l.length<=1000000):aw Tryz.prog 128 [sI l] ⟨sI l,[],0⟩:=by
 refine oG (e:=3) ?_;refine bm ag Tryz.func128 rfl (by decide) Tryz.ntmps128 Tryz.results128 rfl ?_
 repeat' first|refine go ?_|decide|refine sp ?_ ?_<;>intro _
 intro c hc
 cases c with
 | true=>
  repeat' first|refine go ?_|decide|refine sp ?_ ?_<;>intro _
  exact cI (.inr ⟨rfl,hc rfl⟩)
 | false=>
  repeat' first|refine go ?_|decide|refine sp ?_ ?_<;>intro _
  exact ⟨rfl,by omega,yf rfl (.inl rfl)⟩
theorem Kq (zc zg:List (List AV)) (o d:Int) (did cnt:List Int) (h1:did.length<=1000000) (h2:cnt.length<=1000000):aw Tryz.prog 90 [.agg [.sl 2 zc,.sl 1 zg,eI o,eI d,sI did,sI cnt]] ⟨.agg [.c (.slice none 0 0),eI o,eI d,sI did,sI cnt],[],0⟩:=by
 have hok:(⟨.agg [.c (.slice none 0 0),eI o,eI d,sI did,sI cnt],[],0⟩:cM).Ok:=⟨fun id o h=>(by cases h),by simp [AV.lt,AV.ltL]⟩;refine aa ag Tryz.func90 rfl (by decide) Tryz.ntmps90 Tryz.results90 rfl (hok) ?_
 repeat' first|refine go ?_|decide|refine sp ?_ ?_<;>intro _
 refine ap [1] [0,1,2,3,4,5,7,8] (.exec 6 (.exec 9 (.take 10 (.exec 11 .done)))) (by kernel_rfl) (by simp [ae.gc]) ?_
 repeat' first|refine gq ?_|decide|refine sp ?_ ?_<;>intro _|((with_reducible apply cZ (g:=128));exact (AJ did h1);exact (ro))|((with_reducible apply cZ (g:=128));exact (AJ cnt h2);exact (ro))|(with_reducible apply And.intro)
 all_goals exact aX (by first|rfl|simp [AV.ren,AV.renL])
end
section
def Vc (b:Nat):Bool:=decide (48<=b) && decide (b<=57)
def P3 (l:List Nat):Nat:=l.foldl (fun n b=>n * 10+(b - 48)) 0
def MS (l:List Nat):Bool:=!l.isEmpty && l.all Vc
def UP (neg:Bool) (l:List Nat):Int × Int:=
 if MS l=false then (0,17) else if (if neg=true then 9223372036854775808 else 9223372036854775807)<P3 l then (0,2) else (if neg=true then -(P3 l:Int) else (P3 l:Int),0)
end
section
def LI (w:World) (v:Value) (l:List Int):Prop:=
 ∃ A c,v=.slice A l.length c /\ l.length<=c /\ (0<l.length -> ∃ b o,A=some ⟨b,o,none⟩ /\ b<w.heap.size /\ ∀ i (h:i<l.length),w.cell? ⟨b,o+i,none⟩=some (.int .i64 l[i]))
theorem LI.below {w w':World} {v:Value} {l:List Int} (h:LI w v l) (hb:Below w.heap.size w w'):LI w' v l:=by
 obtain ⟨A,c,rfl,hc,hr⟩:=h;refine ⟨A,c,rfl,hc,fun hp=>?_⟩;obtain ⟨b,o,hA,hb1,hcell⟩:=hr hp;exact ⟨b,o,hA,Vm hb1 hb.size,fun i hi=>(hb.cell hb1).trans (hcell i hi)⟩
theorem LI.some_ {w:World} {v:Value} {l:List Int} (h:LI w v l) (hp:0<l.length):∃ b o c,v=.slice (some ⟨b,o,none⟩) l.length c /\ l.length<=c /\ b<w.heap.size /\ ∀ i (h:i<l.length),w.cell? ⟨b,o+i,none⟩=some (.int .i64 l[i]):=by
 obtain ⟨A,c,rfl,hc,hr⟩:=h;obtain ⟨b,o,rfl,hb,hcell⟩:=hr hp;exact ⟨b,o,c,rfl,hc,hb,hcell⟩
theorem LI.at_ {w:World} {A:Option Addr} {c:Nat} {l:List Int} (h:LI w (.slice A l.length c) l) {i:Nat} (hi:i<l.length):∃ b o,A=some ⟨b,o,none⟩ /\ b<w.heap.size /\ w.cell? ⟨b,o+i,none⟩=some (.int .i64 l[i]):=by
 obtain ⟨A',c',e,hc,hr⟩:=h;obtain ⟨rfl,_,rfl⟩:A=A' /\ l.length=l.length /\ c=c':=by simpa using e
 obtain ⟨b,o,rfl,hb,hcell⟩:=hr (by omega);exact ⟨b,o,rfl,hb,hcell i hi⟩
theorem kQ {B:Nat} {w w':World} (h:Below B w w') (n:Nat):Below B w (w'.drewN n):=h.trans ⟨rfl,rfl,rfl,Os _,fun _ _=>rfl⟩
end
section
def LN (B:Nat) (w:World) (v:Value) (l:List Int):Prop:=
 ∃ A c,v=.slice A l.length c /\ l.length<=c /\ c<=9223372036854775807 /\ (0<l.length -> ∃ b o,A=some ⟨b,o,none⟩ /\ B<=b /\ b<w.heap.size /\ ∀ i (h:i<l.length),w.cell? ⟨b,o+i,none⟩=some (.int .i64 l[i]))
theorem LN.rt {B:Nat} {w:World} {S:Nat -> Prop} {v:Value} {l:List Int} (h:LN B w v l) (hS:∀ b,B<=b -> b<w.heap.size -> S b):RT w S v (sI l):=by
 obtain ⟨A,c,rfl,h1,h2,h3⟩:=h
 have key:∀ (i j:Nat) (row:List AV) (av:AV),(l.map fun n=>[eI n])[i]? = some row -> row[j]? = some av -> ∃ hi:i<l.length,j=0 /\ av=eI l[i]:=fun i j row av h4 h5=>by
  have hi:i<l.length:=by
   have:=(Vd.1 h4).1;simpa using this
  rw [Ve,f4 hi] at h4;cases h4
  match j with
  | 0=>exact ⟨hi,rfl,by simpa using h5.symm⟩
  | j+1=>simp at h5
 by_cases h0:0<l.length
 .obtain ⟨b,o,rfl,hb,hbs,hcell⟩:=h3 h0;refine .sl _ _ c 1 _ b o (fun i _=>.int .i64 (l.getD i 0)) (by simp) h1 h2 (fun _=>⟨rfl,hS b hb hbs⟩) (fun row hr=>by obtain ⟨n,_,rfl⟩:=Vt.1 hr;rfl) (fun _ i j row av h4 h5=>?_) (fun _ _ _ _ _ _=>rfl) (fun i j row av h4 h5=>?_)
  .obtain ⟨hi,rfl,_⟩:=key i j row av h4 h5;rw [Nat.mul_one,XA,hcell i hi,Vl,f4 hi];rfl
  .obtain ⟨hi,rfl,rfl⟩:=key i j row av h4 h5;rw [Vl,f4 hi];exact .c _
 .have:l=[]:=WL.1 (by omega);subst this;exact .sl A 0 c 1 [] 0 0 (fun _ _=>undef) rfl h1 h2 (fun h=>by omega) (by simp) (fun h=>by omega) (by simp) (by simp)
theorem LI.of_rt {w:World} {S:Nat -> Prop} {v:Value} {l:List Int} (h:RT w S v (sI l)) (hS:Es w S):LI w v l:=by
 obtain ⟨A,cap,rfl,hc,hm,_,hA⟩:=h.sl_inv;refine ⟨A,cap,by simp,by simpa using hc,fun h0=>?_⟩;obtain ⟨b,o,rfl,hb,U,hcell,hr,_⟩:=hA (by simpa using h0);refine ⟨b,o,rfl,hS b hb,fun i hi=>?_⟩;have h1:(l.map fun n=>[eI n])[i]? = some [eI l[i]]:=by simp [hi]
 have h2:=hcell i 0 _ _ h1 rfl;have h3:=Gj (hr i 0 _ _ h1 rfl);rw [h3] at h2;simpa using h2
theorem Be {P:Program} {f:FuncId} {args:List AV} {sz:Nat} {rows:List (List AV)} (he:fE P f)
  (h:∀ (S:Nat -> Prop) (w:World) (vs:Array Value),Es w S -> vs.size=args.length -> (∀ (j:Nat) (v:Value) (av:AV),vs[j]? = some v -> args[j]? = some av -> RT w S v av) ->
   Calls P f vs w fun e w'=>∃ v,e=.returned v /\ (∀ S',(∀ b,w.heap.size<=b -> b<w'.heap.size -> S' b) -> RT w' S' v (.sl sz rows)) /\ Below w.heap.size w w'):aw P f args ⟨.sl sz rows,[],0⟩:=
 ⟨he,fun S w vs h1 h2 h3=>(h S w vs h1 h2 h3).mono fun e w' ⟨v,h4,h5,h6⟩=>⟨v,fun _=>undef,⟨.sl sz rows,[],0⟩,rfl,⟨fun id o h=>(by cases h),by simp [AV.lt]⟩,h4,⟨jQ h6,fun id o h=>(by cases h),fun id id' o o' g h=>(by cases h),fun b hb=>hb.elim⟩,.tree (h5 _ fun b hb hb2=>⟨hb2,⟨.inr hb,fun hX=>hX⟩,fun id o h=>(by cases h)⟩)⟩⟩
end
section
def lu (x:Int) (st:List Int × Bool) (y:Int):List Int × Bool:=
 ((st.1 ++ (if st.2=false /\ x<=y then [x] else [])) ++ (if y ≠ x then [y] else []),st.2 || decide (x<=y))
def gC (x:Int) (l:List Int):List Int × Bool:=l.foldl (lu x) ([],false)
def wh (x:Int) (out:List Int):List Int:=if (gC x out).2 then (gC x out).1 else (gC x out).1 ++ [x]
def bV (l:List Int):List Int:=l.foldl (fun out x=>wh x out) []
theorem pq (x:Int) (l:List Int) (y:Int):gC x (l ++ [y])=lu x (gC x l) y:=by simp [gC]
theorem FM (x:Int) (l:List Int) (k:Nat) (h:k<l.length):gC x (l.take (k+1))=lu x (gC x (l.take k)) l[k]:=by
 rw [Vk h,pq]
theorem nF (l:List Int) (x:Int):bV (l ++ [x])=wh x (bV l):=by simp [bV]
theorem Bn (l:List Int) (k:Nat) (h:k<l.length):bV (l.take (k+1))=wh l[k] (bV (l.take k)):=by
 rw [Vk h,nF]
theorem nR {p:List Int -> Prop} (h0:p []) (h1:∀ l x,p l -> p (l ++ [x])) (l:List Int):p l:=by
 rw [<- WP l]
 induction l.reverse with
 | nil=>exact h0
 | cons x r ih=>rw [Xb];exact h1 _ _ ih
theorem ym (x:Int) (l:List Int):(gC x l).1.length<=l.length+(if (gC x l).2 then 1 else 0):=by
 induction l using nR with
 | h0=>simp [gC]
 | h1 l y ih=>
  rw [pq];generalize gC x l=st at *;obtain ⟨n,b⟩:=st;cases b<;>by_cases h1:x<=y<;>by_cases h2:y=x<;>simp [lu,h1,h2] at ih ⊢<;>omega
theorem Ku (x:Int) (l:List Int):(wh x l).length<=l.length+1:=by
 have:=ym x l;unfold wh;split<;>rename_i h<;>simp [h] at this ⊢<;>omega
theorem fy (l:List Int):(bV l).length<=l.length:=by
 induction l using nR with
 | h0=>simp [bV]
 | h1 l y ih=>rw [nF];have:=Ku y (bV l);simp;omega
def Up (l:List Int):Prop:=l.Pairwise (· < ·)
theorem OW (x:Int) (l:List Int) (h:Up l) :
  Up (gC x l).1 /\ (∀ z,z ∈ (gC x l).1 ↔ z ∈ l \/ ((gC x l).2=true /\ z=x)) /\ ((gC x l).2=true ↔ ∃ z ∈ l,x<=z) /\ ((gC x l).2=true -> x ∈ (gC x l).1):=by
 induction l using nR with
 | h0=>simp [gC,Up]
 | h1 l y ih=>
  have hl:Up l:=(WD.1 h).1;have hy:∀ z ∈ l,z<y:=fun z hz=>(WD.1 h).2.2 z hz y (by simp);obtain ⟨i1,i2,i3,i4⟩:=ih hl;rw [pq];generalize gC x l=st at *;obtain ⟨n,b⟩:=st;simp only at i1 i2 i3 i4
  cases b with
  | true=>
   obtain ⟨z,hz,hxz⟩:=i3.1 rfl;have hxy:x<y:=by have:=hy z hz;omega
   have hne:y ≠ x:=(by omega);simp only [lu,Bool.true_or,Bool.true_eq_false,false_and,if_false,Wn,Vn hne];refine ⟨WD.2 ⟨i1,by simp,?_⟩,?_,?_,?_⟩
   .intro a ha c hc;rw [VF] at hc;subst hc;rcases (i2 a).1 ha with h|⟨_,rfl⟩
    .exact hy a h
    .exact hxy
   .intro a;simp only [Vp,VF,i2];constructor
    .rintro ((h | h) | h)
     .exact .inl (.inl h)
     .exact .inr h
     .exact .inl (.inr h)
    .rintro ((h | h) | h)
     .exact .inl (.inl h)
     .exact .inr h
     .exact .inl (.inr h)
   .exact ⟨fun _=>⟨z,by simp [hz],hxz⟩,fun _=>trivial⟩
   .intro _;simp [i4 rfl]
  | false=>
   have hlow:∀ z ∈ l,z<x:=fun z hz=>by
    rcases Int.lt_or_le z x with h|h
    .exact h
    .exact absurd (i3.2 ⟨z,hz,h⟩) (by simp)
   have hn:∀ z,z ∈ n ↔ z ∈ l:=fun z=>by rw [i2];simp
   by_cases hxy:x<=y
   .by_cases hne:y=x
    .subst hne;simp only [lu,Xn,and_self,if_true,ne_eq,not_true,if_false,Wn,decide_true,Bool.or_true];refine ⟨WD.2 ⟨i1,by simp,?_⟩,?_,?_,?_⟩
     .intro a ha c hc;rw [VF] at hc;subst hc;exact hy a ((hn a).1 ha)
     .intro a;simp only [Vp,VF,hn];constructor
      .rintro (h | h)
       .exact .inl (.inl h)
       .exact .inl (.inr h)
      .rintro (h | ⟨_,h⟩)
       .exact h
       .exact .inr h
     .exact ⟨fun _=>⟨y,by simp,Xn _⟩,fun _=>trivial⟩
     .intro _;simp
    .simp only [lu,hxy,and_self,if_true,ne_eq,hne,not_false_eq_true,decide_true,Bool.or_true];refine ⟨?_,?_,?_,?_⟩
     .unfold Up;rw [VZ];refine WD.2 ⟨i1,by simp;omega,?_⟩;intro a ha c hc;have hal:=(hn a).1 ha;have h1:=hlow a hal;have h2:=hy a hal;simp at hc;rcases hc with rfl|rfl
      .exact h1
      .exact h2
     .intro a;simp only [Vp,VF,hn];constructor
      .rintro ((h | h) | h)
       .exact .inl (.inl h)
       .exact .inr ⟨by simp,h⟩
       .exact .inl (.inr h)
      .rintro ((h | h) | ⟨_,h⟩)
       .exact .inl (.inl h)
       .exact .inr h
       .exact .inl (.inr h)
     .exact ⟨fun _=>⟨y,by simp,hxy⟩,fun _=>trivial⟩
     .intro _;simp
   .have hne:y ≠ x:=(by omega);have hd:decide (x<=y)=false:=Vu hxy;simp only [lu,hxy,and_false,if_false,Wn,Vn hne,hd,Bool.or_false];refine ⟨WD.2 ⟨i1,by simp,?_⟩,?_,?_,?_⟩
    .intro a ha c hc;rw [VF] at hc;subst hc;exact hy a ((hn a).1 ha)
    .intro a;simp only [Vp,VF,hn];simp
    .constructor
     .intro h;cases h
     .rintro ⟨z,hz,hxz⟩;rcases Vp.1 hz with h|h
      .have:=hlow z h;omega
      .rw [VF] at h;subst h;exact absurd hxz hxy
    .intro h;cases h
theorem MW (x:Int) (l:List Int) (h:Up l):Up (wh x l) /\ ∀ z,z ∈ wh x l ↔ z ∈ l \/ z=x:=by
 obtain ⟨i1,i2,i3,i4⟩:=OW x l h;unfold wh;split
 .rename_i hb;refine ⟨i1,fun z=>?_⟩;rw [i2];simp [hb]
 .rename_i hb
  have hlow:∀ z ∈ l,z<x:=fun z hz=>by
   rcases Int.lt_or_le z x with h|h
   .exact h
   .exact absurd (i3.2 ⟨z,hz,h⟩) hb
  have hn:∀ z,z ∈ (gC x l).1 ↔ z ∈ l:=fun z=>by rw [i2];simp [hb]
  refine ⟨WD.2 ⟨i1,by simp,?_⟩,fun z=>?_⟩
  .intro a ha c hc;rw [VF] at hc;subst hc;exact hlow a ((hn a).1 ha)
  .simp [hn]
theorem il (l:List Int):Up (bV l) /\ ∀ z,z ∈ bV l ↔ z ∈ l:=by
 induction l using nR with
 | h0=>simp [bV,Up]
 | h1 l x ih=>
  obtain ⟨h1,h2⟩:=MW x _ ih.1;rw [nF];exact ⟨h1,fun z=>by rw [h2,ih.2];simp⟩
theorem Lz:∀ (a b:List Int),Up a -> Up b -> (∀ z,z ∈ a ↔ z ∈ b) -> a=b
 | [],[],_,_,_=>rfl
 | [],y :: b,_,_,h=>by have:=(h y).2 (by simp);simp at this
 | x :: a,[],_,_,h=>by have:=(h x).1 (by simp);simp at this
 | x :: a,y :: b,ha,hb,h=>by
  have ha':=List.pairwise_cons.1 ha;have hb':=List.pairwise_cons.1 hb
  have hxy:x=y:=by
   rcases V8.1 ((h x).1 (by simp)) with h1|h1
   .exact h1
   .rcases V8.1 ((h y).2 (by simp)) with h2 | h2
    .exact h2.symm
    .have:=hb'.1 x h1;have:=ha'.1 y h2;omega
  subst hxy;rw [Lz a b ha'.2 hb'.2 (fun z=>?_)];constructor
  .intro hz;rcases V8.1 ((h z).1 (by simp [hz])) with h1|h1
   .subst h1;have:=ha'.1 z hz;omega
   .exact h1
  .intro hz;rcases V8.1 ((h z).2 (by simp [hz])) with h1|h1
   .subst h1;have:=hb'.1 z hz;omega
   .exact h1
theorem BU (d:Array Int) (hs:∀ i j,i<j -> j<d.size -> d[i]! <= d[j]!) (m:Nat) (hm:m<=d.size) :
  Up (Lib.compactUpTo d m) /\ (∀ z,z ∈ Lib.compactUpTo d m ↔ ∃ i,i<m /\ d[i]! = z):=by
 induction m with
 | zero=>simp [Lib.compactUpTo,Up]
 | succ m ih=>
  obtain ⟨h1,h2⟩:=ih (by omega);rw [Lib.compactUpTo_succ];by_cases hk:Lib.keeps d m=true
  .rw [Vn hk];refine ⟨WD.2 ⟨h1,by simp,?_⟩,fun z=>?_⟩
   .intro a ha c hc;rw [VF] at hc;subst hc;obtain ⟨i,hi,rfl⟩:=(h2 a).1 ha;simp only [Lib.keeps,VG] at hk;have h3:=hs (m - 1) m (by omega) (by omega)
    have h4:d[i]! <= d[m - 1]!:=by
     rcases Vv i (m - 1) with h|h
     .exact hs i (m - 1) h (by omega)
     .rw [show i=m - 1 by omega];exact Xn _
    rcases hk with h|h
    .omega
    .have:d[m]! ≠ d[m - 1]!:=h;omega
   .simp only [Vp,VF,h2];constructor
    .rintro (⟨i,hi,rfl⟩ | rfl)
     .exact ⟨i,by omega,rfl⟩
     .exact ⟨m,by omega,rfl⟩
    .rintro ⟨i,hi,rfl⟩;rcases Vv i m with h|h
     .exact .inl ⟨i,h,rfl⟩
     .exact .inr (by rw [show i=m by omega])
  .rw [Vh hk,Wn];refine ⟨h1,fun z=>?_⟩;rw [h2];simp only [Lib.keeps,VG,not_or,ne_eq,Decidable.not_not] at hk;constructor
   .rintro ⟨i,hi,rfl⟩;exact ⟨i,by omega,rfl⟩
   .rintro ⟨i,hi,rfl⟩;rcases Vv i m with h|h
    .exact ⟨i,h,rfl⟩
    .exact ⟨m - 1,by omega,by rw [<- hk.2,show i=m by omega]⟩
def qp (l:List Int):List Int:=Lib.compact (l.mergeSort fun x y=>decide (x<=y))
theorem KK (l:List Int):qp l=bV l:=by
 have hp:(l.mergeSort fun x y=>decide (x<=y)).Pairwise (fun a b=>decide (a<=b)=true):=List.pairwise_mergeSort (le:=fun x y=>decide (x<=y)) (fun a b c h1 h2=>by simp at *;omega) (fun a b=>by simp;omega) l;have hm:∀ z,z ∈ (l.mergeSort fun x y=>decide (x<=y)) ↔ z ∈ l:=fun z=>List.mem_mergeSort;unfold qp Lib.compact;generalize (l.mergeSort fun x y=>decide (x<=y))=s at *
 have hs:∀ i j,i<j -> j<s.toArray.size -> s.toArray[i]! <= s.toArray[j]!:=by
  intro i j hij hj;have hj':j<s.length:=by simpa using hj
  have h1:=Wk.1 hp i j (by omega) hj' hij;rw [getElem!_pos _ i (by simp;omega),getElem!_pos _ j hj];simpa using h1
 obtain ⟨h1,h2⟩:=BU s.toArray hs s.length (by simp);refine Lz _ _ h1 (il l).1 (fun z=>?_);rw [h2,(il l).2,<- hm];constructor
 .rintro ⟨i,hi,rfl⟩;rw [getElem!_pos _ i (by simpa using hi)];simp
 .intro hz;obtain ⟨i,hi,rfl⟩:=VB hz;exact ⟨i,hi,by rw [getElem!_pos _ i (by simpa using hi)];simp⟩
theorem u1 (s:List Int) (n:Int) (h:Up s) (r:Nat) (hr:r<=s.length) (hlo:∀ (h0:0<r),s[r - 1]'(by omega)<n) (hhi:∀ (h1:r<s.length),n<=s[r]) :
  s.countP (fun x=>decide (x<n))=r /\ (decide (r<s.length) && (s[r]? == some n))=decide (n ∈ s):=by
 have hp:=Wk.1 h
 have hlow:∀ i (hi:i<r),s[i]'(by omega)<n:=fun i hi=>by
  have h1:=hlo (by omega);rcases Vv i (r - 1) with h2|h2
  .have:=hp i (r - 1) (by omega) (by omega) h2;omega
  .have e:i=r - 1:=(by omega);subst e;exact h1
 have hhigh:∀ i (hi:r<=i) (hi2:i<s.length),n<=s[i]:=fun i hi hi2=>by
  have h1:=hhi (by omega);rcases Vv r i with h2|h2
  .have:=hp r i (by omega) hi2 h2;omega
  .have e:i=r:=(by omega);subst e;exact h1
 constructor
 .rw [<- WX r s,List.countP_append]
  have e1:(s.take r).countP (fun x=>decide (x<n))=(s.take r).length:=List.countP_eq_length.2 (fun a ha=>by
   obtain ⟨i,hi,rfl⟩:=VB ha;rw [Vr] at hi;rw [List.getElem_take];exact VC (hlow i (by omega)))
  have e2:(s.drop r).countP (fun x=>decide (x<n))=0:=List.countP_eq_zero.2 (fun a ha=>by
   obtain ⟨i,hi,rfl⟩:=VB ha;rw [Wa] at hi;rw [List.getElem_drop];have:=hhigh (r+i) (by omega) (by omega);simp;omega)
  rw [e1,e2,Vr];omega
 .by_cases hm:n ∈ s
  .obtain ⟨i,hi,he⟩:=VB hm;have h1:¬ i<r:=fun h=>by have:=hlow i h;omega
   have h2:=hhi (by omega)
   have h3:i=r:=by
    rcases Vv r i with h4|h4
    .have:=hp r i (by omega) hi h4;omega
    .omega
   subst h3;simp [hm,hi,he]
  .have:¬ (r<s.length /\ s[r]? = some n):=fun ⟨h1,h2⟩=>hm (p0 h2);simp only [hm,decide_false];rw [Wi];intro hc;simp only [Vw,VG,Wv] at hc;exact this hc
end
section
theorem Mc (x y:Int) (n:List Int) (h:y=x):lu x (n,true) y=(n,true):=by simp [lu,h]
theorem Ec (x y:Int) (n:List Int) (h:y ≠ x):lu x (n,true) y=(n ++ [y],true):=by simp [lu,h]
theorem Ow (x y:Int) (n:List Int) (h1:x<=y) (h:y=x):lu x (n,false) y=(n ++ [x],true):=by simp [lu,h]
theorem Lk (x y:Int) (n:List Int) (h1:x<=y) (h:y ≠ x):lu x (n,false) y=((n ++ [x]) ++ [y],true):=by simp [lu,h,h1]
theorem Nr (x y:Int) (n:List Int) (h1:¬ x<=y):lu x (n,false) y=(n ++ [y],false):=by
 have:y ≠ x:=by omega
 simp [lu,h1,this]
end
section
open Go.RowKit Go.Sort
theorem Dk:(Tryz.prog.info? 2).map (fun i=>(i.zero,i.size,i.bytes))=some (some (.int .i64 0),1,8):=by kernel_rfl
theorem GD (ba bn b o c:Nat) (l:List Int) (n:Int) (i:Nat) (W:World) (hi:i<l.length)
  (ha:W.cell? ⟨ba,0,none⟩=some (.slice (some ⟨b,o,none⟩) l.length c)) (hn:W.cell? ⟨bn,0,none⟩=some (.int .i64 n)) (hc:W.cell? ⟨b,o+i,none⟩=some (.int .i64 l[i])) :
  Calls Tryz.prog 194 (#[.int .i64 (i:Int)] ++ #[.pointer (some ⟨ba,0,none⟩),.pointer (some ⟨bn,0,none⟩)]) W fun e w'=>e=.returned (.bool (decide (n<=l[i]))) /\ ∃ q,w'=W.drewN q:=by
 generalize l[i]=y at *;have hiz:(i:Int)<(l.length:Int):=by omega
 go_enter Tryz.func194,Tryz.ntmps194
 go_wp2_with fail
 go_quiet (fail)
 go_wp2_with fail
 go_ret
 exact ⟨rfl,_,rfl⟩
theorem BD (g:FuncId) (cb:Array Value) (n:Nat) (p:Nat -> Bool) (w:World) (eg:∀ args w,(callFunc g args).run Tryz.prog w=.ok (.enter g args) w) (hsz:n<4611686018427387904)
  (hf:∀ (m:Nat) (i:Nat),i<n -> Calls Tryz.prog g (#[.int .i64 i] ++ cb) (w.drewN m) fun e w'=>e=.returned (.bool (p i)) /\ ∃ q,w'=(w.drewN m).drewN q) :
  Calls Tryz.prog 193 #[.int .i64 n,.func (.func g) #[] cb] w fun e w'=>∃ r:Nat,e=.returned (.int .i64 (r:Int)) /\ r<=n /\ (0<r -> p (r - 1)=false) /\ (r<n -> p r=true) /\ ∃ q,w'=w.drewN q:=by
 have HF:=aG hf;clear hf
 go_enter Tryz.func193,Tryz.ntmps193
 go_wp2_with fail
 go_loopw [5,6] (fun s5 s6 wr=>∃ (lo hi q:Nat),s5=.int .i64 (lo:Int) /\ s6=.int .i64 (hi:Int) /\ lo<=hi /\ hi<=n /\ Hid ((0<lo -> p (lo - 1)=false) /\ (hi<n -> p hi=true)) /\ wr=w.drewN q) (fun s5 s6 wr=>(intOf s6).toNat - (intOf s5).toNat)
 case atStart=>exact ⟨0,n,0,rfl,rfl,Vg _,Os _,aG ⟨fun h=>absurd h (Nat.lt_irrefl _),fun h=>absurd h (Nat.lt_irrefl _)⟩,rfl⟩
 case round=>
  obtain ⟨lo,hi,q,rfl,rfl,hlh,hin,I,rfl⟩:=hrel;by_cases hlt:lo<hi
  .have hc:=HF.out q ((lo+hi) / 2) (by omega);rw [show (((lo+hi) / 2:Nat):Int)=((lo:Int)+(hi:Int)) / 2 by omega] at hc;cases hp:p ((lo+hi) / 2)<;>rw [hp] at hc
   .have HP:=aG hp;clear hp
    go_wp2_with (go_at_fn g;refine hc.mono ?_;rintro e w' ⟨rfl,nq,rfl⟩)
    go_roundw
    case rel=>exact ⟨(lo+hi) / 2+1,hi,q+nq,by rw [show ((lo:Int)+(hi:Int)) / 2+1=(((lo+hi) / 2+1:Nat):Int) by omega],rfl,by omega,hin,aG ⟨fun _=>by rw [WB];exact HP.out,I.out.2⟩,rfl⟩
    case measure=>simp [intOf];omega
   .have HP:=aG hp;clear hp
    go_wp2_with (go_at_fn g;refine hc.mono ?_;rintro e w' ⟨rfl,nq,rfl⟩)
    go_roundw
    case rel=>exact ⟨lo,(lo+hi) / 2,q+nq,rfl,by rw [show ((lo:Int)+(hi:Int)) / 2=(((lo+hi) / 2:Nat):Int) by omega],by omega,by omega,aG ⟨I.out.1,fun _=>HP.out⟩,rfl⟩
    case measure=>simp [intOf];omega
  .obtain rfl:hi=lo:=by omega
   go_wp2_with fail
   go_ret
   exact ⟨hi,rfl,hin,I.out.1,I.out.2,q,rfl⟩
structure Fd (l:List Int) (n:Int) (r:Nat):Prop where
 le:r<=l.length
 lo:∀ (h0:0<r) (h1:r - 1<l.length),l[r - 1]<n
 hi:∀ (h1:r<l.length),n<=l[r]
theorem vO (W:World) (v:Value) (t:TypeId):(W.alloc (.cells #[v] t)).cell? ⟨W.heap.size,0,none⟩=some v:=by
 rw [World.cell?_alloc_at _ _ _ _ (by simp)];rfl
theorem KT (l:List Int) (n:Int) (v:Value) (w:World) (hl:l.length<=1000000) (h:LI w v l) :
  Calls Tryz.prog 185 #[v,.int .i64 n] w fun e w'=>(∃ r:Nat,e=.returned (.tuple #[.int .i64 (r:Int),.bool (decide (r<l.length) && (l[r]? == some n))]) /\ Fd l n r) /\ Below w.heap.size w w':=by
 have hcf:∀ args w,(callFunc 194 args).run Tryz.prog w=.ok (.enter 194 args) w:=by intro args w;simp [go_sem,Tryz.func194]
 have h0:=h;obtain ⟨A,c,rfl,hc,hr⟩:=h0;generalize hW:(w.alloc (.cells #[.slice A l.length c] 23)).alloc (.cells #[.int .i64 n] 2)=W
 have hWl:W.cell? ⟨w.heap.size,0,none⟩=some (.slice A l.length c):=by
  rw [<- hW];exact (Below.cell ((Below.refl (w.heap.size+1) (w.alloc (.cells #[.slice A l.length c] 23))).alloc (by simp) _) (by simp)).trans (vO w _ _)
 have hWn:W.cell? ⟨w.heap.size+1,0,none⟩=some (.int .i64 n):=by
  rw [<- hW];have:=vO (w.alloc (.cells #[.slice A l.length c] 23)) (.int .i64 n) 2
  rwa [show (w.alloc (.cells #[.slice A l.length c] 23)).heap.size=w.heap.size+1 by simp] at this
 have hbW:Below w.heap.size w W:=by rw [<- hW];exact ((Below.refl _ _).alloc (Os _) _).alloc (by simp) _
 have hLW:=LI.below h hbW
 have hse:=BD 194 #[.pointer (some ⟨w.heap.size,0,none⟩),.pointer (some ⟨w.heap.size+1,0,none⟩)] l.length (fun i=>decide (n<=l.getD i 0)) W hcf (by omega) (fun m i hi=>by
  obtain ⟨b,o,rfl,hb,hcell⟩:=hLW.at_ hi;have:=GD w.heap.size (w.heap.size+1) b o c l n i (W.drewN m) hi hWl hWn hcell;rw [show l.getD i 0=l[i] by simp [List.getD,hi]];exact this)
 have Hse:=aG hse;have HbW:=aG hbW;have HLW:=aG hLW;clear hse hbW hLW h hr
 go_enter Tryz.func185,Tryz.ntmps185
 go_wp2_with fail
 refine Hse.out.mono ?_;rintro e w2 ⟨r,rfl,hrl,hlo,hhi,q,rfl⟩
 have hF:Fd l n r:=⟨hrl,fun h0 h1=>by
   have:=hlo h0;rw [show l.getD (r - 1) 0=l[r - 1] by simp [List.getD,h1]] at this;have:=of_decide_eq_false this;omega,fun h1=>by
   have:=hhi h1;rw [show l.getD r 0=l[r] by simp [List.getD,h1]] at this;exact of_decide_eq_true this⟩
 have HF:=aG hF;clear Hse hF hlo hhi hW;have hb2:=aG (kQ HbW.out q);by_cases hlt:r<l.length
 .obtain ⟨b,o,rfl,_,hcell⟩:=HLW.out.at_ hlt;have hri:(r:Int)<(l.length:Int):=by omega
  have E:=aG (show (decide (r<l.length) && (l[r]? == some n))=(l[r] == n) by simp [hlt]);generalize l[r]=y at *;have hyn:∃ B,B=(y == n):=⟨_,rfl⟩;obtain ⟨B,hB⟩:=hyn;rw [<- hB] at E;have hB2:=hB.symm;clear hB
  go_wp2_with fail
  go_quiet (fail)
  go_wp2_with fail
  go_ret2
  exact ⟨⟨r,by rw [E.out];rfl,HF.out⟩,kQ hb2.out _⟩
 .obtain rfl:r=l.length:=by omega
  have E:=aG (show (decide (l.length<l.length) && (l[l.length]? == some n))=false by simp)
  go_wp2_with fail
  go_quiet (fail)
  go_wp2_with fail
  go_ret2
  exact ⟨⟨l.length,by rw [E.out];rfl,HF.out⟩,kQ hb2.out _⟩
end
section
open Go.RowKit Go.Sort
theorem zj (S:List Int):(Lib.compact S).length<=S.length:=by
 unfold Lib.compact Lib.compactUpTo;rw [Vo];have:=List.length_filter_le (Lib.keeps S.toArray) (List.range S.length);simpa using this
theorem Ch (A:Option Addr) (c:Nat) (w:World) :
  Calls Tryz.prog 195 #[.slice A 0 c] w fun e w'=>(∃ A' c',e=.returned (.slice A' 0 c') /\ c'<=9223372036854775807) /\ Below w.heap.size w w':=by
 cases A with
 | none=>exact (Tryz.slices_Clone_nil 0 c w).mono (by rintro e w' ⟨rfl,rfl⟩;exact ⟨⟨_,_,rfl,by decide⟩,Below.refl _ _⟩)
 | some a=>
  obtain ⟨i0,hi0,hz0,hz1,hz2⟩:=info_parts Dk;have q22:∀ (w:World) (a:Option Addr) (n c n' c':Nat),(binOp .eql 23 (.slice a n c) (.slice none n' c')).run Tryz.prog w=.ok (.bool a.isNone) w:=fun w a n c n' c'=>Lib.run_eql_slice_nil w _ _ a n c n' c' Tryz.underlying23
  go_enter Tryz.func195,Tryz.ntmps195
  go_wp2_with fail
  go_ret
  exact ⟨⟨_,_,rfl,by decide⟩,(Below.refl _ _).alloc (Os _) _⟩
theorem Ja (A:Option Addr) (c:Nat) (w:World) :
  Calls Tryz.prog 200 #[.slice A 0 c,.int .i64 0,.int .i64 0] w fun e w'=>e=.returned (.tuple #[]) /\ Below w.heap.size w w':=by
 go_enter Tryz.func200,Tryz.ntmps200
 go_wp2_with fail
 go_loopw [6] (fun i wr=>i=.int .i64 1 /\ Below w.heap.size w wr) (fun i wr=>0)
 case atStart=>exact ⟨rfl,Below.refl _ _⟩
 case round=>
  obtain ⟨rfl,hbl⟩:=hrel
  go_wp2_with fail
  go_end0
  exact ⟨rfl,hbl⟩
theorem KF (A:Option Addr) (c:Nat) (L:Int) (w:World) :
  Calls Tryz.prog 198 #[.slice A 0 c,.int .i64 0,.int .i64 0,.int .i64 L] w fun e w'=>e=.returned (.tuple #[]) /\ Below w.heap.size w w':=by
 go_enter Tryz.func198,Tryz.ntmps198
 go_wp2_with fail
 go_loopw [1,2] (fun a b wr=>a=.int .i64 0 /\ b=.int .i64 0 /\ Below w.heap.size w wr) (fun a b wr=>0)
 case atStart=>exact ⟨rfl,rfl,Below.refl _ _⟩
 case round=>
  obtain ⟨rfl,rfl,hbl⟩:=hrel;have h:=Ja A c wr
  go_wp2_with fail
  refine h.mono ?_;rintro e w2 ⟨rfl,hb2⟩
  go_wp2_with fail
  refine bodyPost_ret (results_none rfl _ _ _) rfl ?_;exact ⟨rfl,hbl.trans (hb2.mono hbl.size)⟩
theorem Gn (A:Option Addr) (c:Nat) (w:World) :
  Calls Tryz.prog 196 #[.slice A 0 c] w fun e w'=>e=.returned (.tuple #[]) /\ Below w.heap.size w w':=by
 have h1:=Tryz.bits_Len 0 w (by decide) (by decide);generalize Lib.bitLen (0:Int).toNat=L at *;have h2:=KF A c L w
 go_enter Tryz.func196,Tryz.ntmps196
 go_wp2_with fail
 refine h1.mono ?_;rintro e w2 ⟨rfl,rfl⟩
 go_wp2_with fail
 refine h2.mono ?_;rintro e w3 ⟨rfl,hb⟩
 go_wp2_with fail
 go_end0
 exact ⟨rfl,hb⟩
theorem r9 (v:Value) (w:World) (h:LI w v []) :
  Calls Tryz.prog 186 #[v] w fun e w'=>∃ v',e=.returned v' /\ LN w.heap.size w' v' (qp []) /\ Below w.heap.size w w':=by
 obtain ⟨A,c,rfl,hc,_⟩:=h;have h1:=Ch A c w;simp only [Wt]
 go_enter Tryz.func186,Tryz.ntmps186
 go_wp2_with fail
 refine h1.mono ?_;rintro e w2 ⟨⟨A',c',rfl,hc9⟩,hb2⟩;have h2:=Gn A' c' w2
 go_wp2_with fail
 refine h2.mono ?_;rintro e w3 ⟨rfl,hb3⟩;have h3:=Tryz.slices_Compact_int_empty A' c' w3
 go_wp2_with fail
 refine h3.mono ?_;rintro e w4 ⟨rfl,rfl⟩
 go_wp2_with fail
 go_ret
 rw [show qp []=[] by simp [qp,Lib.compact,Lib.compactUpTo]];exact ⟨_,rfl,⟨A',c',rfl,Vg _,hc9,fun h=>absurd h (by simp)⟩,hb2.trans (hb3.mono hb2.size)⟩
end
section
open Go.RowKit Go.Sort
theorem sW (l:List Int) (v:Value) (w:World) (hl:l.length<=1000000) (hp:0<l.length) (h:LI w v l) :
  Calls Tryz.prog 186 #[v] w fun e w'=>∃ v',e=.returned v' /\ LN w.heap.size w' v' (qp l) /\ Below w.heap.size w w':=by
 obtain ⟨i0,hi0,hz0,hz1,hz2⟩:=info_parts Dk;obtain ⟨b,o,c,rfl,hc,hb,hcell⟩:=h.some_ hp
 have h1:=Tryz.slices_Clone i0 (.int .i64 0) 1 8 hi0 hz0 hz1 hz2 rfl (by decide) Tryz.sizeOf2 b o l.length c (l.map (Value.int .i64)) w (by simp) (by unfold maxLen;omega) (by omega)
  (fun j u hj=>by
   rw [Ve] at hj;rcases Vv j l.length with hlt|hge
   .rw [f4 hlt] at hj;obtain rfl:Value.int .i64 l[j]=u:=by simpa using hj
    exact hcell j hlt
   .rw [Vs hge] at hj;simp at hj)
  (fun u hu=>by obtain ⟨x,_,rfl⟩:=Vt.1 hu;rfl)
 have H1:=aG h1;clear h1;unfold qp;have hSl:(l.mergeSort fun x y=>decide (x<=y)).length=l.length:=List.length_mergeSort ..;generalize hSd:(l.mergeSort fun x y=>decide (x<=y))=S at *;have HSd:=aG hSd;have HSl:=aG hSl;clear hSd hSl
 go_enter Tryz.func186,Tryz.ntmps186
 go_wp2_with fail
 refine H1.out.mono ?_;rintro e w1 ⟨v',rfl,hown,hnn,hb1⟩;obtain ⟨_,⟨_,hn0⟩|⟨g,cap,cur,rfl,hbase,hblk,hn,hcap,hcs,htake⟩⟩:=hown
 .omega
 rw [Nat.mul_one] at htake;have hg:g<w1.heap.size:=(VJ.1 hblk).1;have hH:=holds_of_blockI hblk htake;have h2:=Tryz.slices_Sort_int g 0 cap l w1 hH hg (by omega);rw [HSd.out] at h2;have H2:=aG h2;clear h2 H1 hH
 go_wp2_with fail
 refine H2.out.mono ?_;rintro e w2 ⟨rfl,n,os,rfl⟩;have hSl:=HSl.out;have hown2:=ownsRow_sortedI (n:=n) (os:=os) (ts:=S) hSl hbase hblk hn hcap hcs;have hgr2:=grownBy_sortedI (w:=w1) (g:=g) (n:=n) (os:=os) S.toArray;generalize Go.Sort.grow (putRow (Value.int .i64) (Sort.ahead w1 n) g 0 S.toArray) os=w2 at *;have hb2:Below w.heap.size w w2:=hb1.grown hgr2 hb1.size (fun j hj=>by cases hj;exact hbase);obtain ⟨_,⟨hx,_⟩|⟨g',cap',cur2,hv,_,hblk2,_,_,hcs2,htake2⟩⟩:=hown2
 .cases hx
 cases hv;rw [Nat.mul_one,<- hSl] at htake2;have hg2:g<w2.heap.size:=(VJ.1 hblk2).1;have hH2:=holds_of_blockI hblk2 htake2;have h3:=Tryz.slices_Compact_int g 0 cap S w2 hH2 (by omega) (by omega);rw [hSl] at h3;have H3:=aG h3;have hcl:=zj S;clear h3 H2 hH2
 go_wp2_with fail
 refine H3.out.mono ?_;rintro e w3 ⟨rfl,q,hw3⟩;have hown3:=ownsRow_sortedI (n:=q) (os:=#[]) (ss:=S) (ts:=Lib.compact S ++ List.replicate (S.length - (Lib.compact S).length) 0) (by simp;omega) hbase hblk2 (by omega) hcap hcs2;have hgr3:=grownBy_sortedI (w:=w2) (g:=g) (n:=q) (os:=#[]) (Lib.compact S ++ List.replicate (S.length - (Lib.compact S).length) 0).toArray;rw [grow_empty] at hown3 hgr3;rw [hSl] at hown3 hgr3;rw [<- hw3] at hown3 hgr3;have hb3:Below w.heap.size w w3:=hb2.grown hgr3 hb2.size (fun j hj=>by cases hj;exact hbase)
 have hLI:LN w.heap.size w3 (.slice (some ⟨g,0,none⟩) (Lib.compact S).length cap) (Lib.compact S):=by
  refine ⟨_,_,rfl,by omega,by unfold maxLen at hcap;omega,fun _=>⟨g,0,rfl,hbase,?_,fun i hi=>?_⟩⟩
  .have:=hgr3.size;omega
  .rw [WR];exact iq hown3 rfl (by rw [Ve,VM hi,f4 hi];rfl)
 clear hw3 H3 hown3 hgr3 hblk hblk2 htake htake2
 go_wp2_with fail
 go_ret
 exact ⟨_,rfl,hLI,hb3⟩
theorem ui (l:List Int) (v:Value) (w:World) (hl:l.length<=1000000) (h:LI w v l) :
  Calls Tryz.prog 186 #[v] w fun e w'=>∃ v',e=.returned v' /\ LN w.heap.size w' v' (qp l) /\ Below w.heap.size w w':=by
 cases l with
 | nil=>exact r9 v w h
 | cons x l=>exact sW (x :: l) v w hl (by simp) h
end
section
theorem OT {vs:Array Value} {a:AV} (hn:vs.size=[a].length):∃ x,vs = #[x]:=⟨vs[0]'(by simp at hn;omega),by
 apply Array.ext (by simpa using hn);intro i h1 h2;simp at h2;subst h2;rfl⟩
theorem yV (l:List Int) (hl:l.length<=1000000):aw Tryz.prog 186 [sI l] ⟨sI (bV l),[],0⟩:=
 Be (fb Tryz.func186 rfl (by decide)) fun S w vs hS hn hv=>by
  obtain ⟨a,rfl⟩:=OT hn;refine (ui l a w hl (LI.of_rt (hv 0 a _ rfl rfl) hS)).mono fun e w' ⟨v',h1,h2,h3⟩=>?_;rw [KK] at h2;exact ⟨v',h1,fun S' hS'=>h2.rt hS',h3⟩
def Mm (e:TypeId) (sz:Nat) (rows:List (List AV)) (R:cM):Prop:=R=iZ e sz rows \/ R=⟨.sl sz rows,[],0⟩
theorem n7 {P:Program} {f:FuncId} {args:List AV} (e:TypeId) {sz:Nat} {rows:List (List AV)} (h:dt P f args (Mm e sz rows)):aw P f args ⟨.sl sz rows,[],0⟩:=
 h.tree (by simp [AV.lt]) fun R hR=>by
  rcases hR with rfl|rfl
  .refine ⟨[0],?_⟩;have e:((iZ e sz rows).frzs [0]).r=.sl sz rows:=(by simp [cM.frzs,cM.frz,iZ,ae.gc,AV.frz]);rw [e];exact ⟨trivial,.one (.one (.refl _))⟩
  .exact ⟨[],trivial,.one (.one (.refl _))⟩
theorem Fy (x:Int) (O:List Int) (m:Nat):(gC x (O.take m)).1.length<=m+1:=by
 have:=ym x (O.take m);have h2:=List.length_take_le m O;split at this<;>omega
theorem wu (l:List Int) (hl:l.length<=5000000):aw Tryz.prog 16 [sI l] (iZ 2 1 ((bV l).map fun n=>[eI n])):=by
 refine aa ag Tryz.func16 rfl (by decide) Tryz.ntmps16 Tryz.results16 rfl (cT _ _ _) ?_
 repeat' first|refine go ?_|decide|refine sp ?_ ?_<;>intro _
 refine af (fun st=>∃ k:Nat,k<=l.length /\ st=⟨67,[(0,sI l),(3,.osl 0),(4,eI (k:Int))],[(0,some (.row 2 1 ((bV (l.take k)).map fun n=>[eI n])))],1⟩) (fun st=>l.length - ax st 4) ⟨_,((bA 3 2 1 (by simp only [jn,aj.get,bh,aj.put,↓reduceIte,reduceCtorEq,Nat.reduceLT,Nat.reduceEqDiff,Nat.reduceAdd,Nat.reduceLeDiff,eq_self,implies_true,VA,bV,Wr,VP])).trans (wS [0] (kf @VA (kf @bV.eq_1 @Wr)))),0,Vg _,rfl⟩ ?_;rintro _ ⟨k,hk,rfl⟩;by_cases hlt:k<l.length
 .have hst:=Bn l k hlt
  have hol:(bV (l.take k)).length<=5000000:=by
   have:=fy (l.take k);have:=List.length_take_le k l;omega
  obtain ⟨x,hx⟩:∃ x,x=l[k]:=⟨_,rfl⟩;have hrx:(l.map fun n=>[eI n])[k]?.getD []=[eI x]:=by rw [hx];simp [hlt]
  rw [<- hx] at hst;obtain ⟨O,hO⟩:∃ O,O=bV (l.take k):=⟨_,rfl⟩;rw [<- hO] at hst hol ⊢
  repeat' first|refine ge @hlt ?_|decide|refine sp ?_ ?_<;>intro _
  refine af (fun st=>∃ m:Nat,m<=O.length /\ st=⟨67,[(0,sI l),(3,.osl 0),(4,eI (k:Int)),(5,.osl 1),(6,eB (gC x (O.take m)).2),(7,eI (m:Int))],[(0,some (.row 2 1 (O.map fun n=>[eI n]))),(1,some (.row 2 1 ((gC x (O.take m)).1.map fun n=>[eI n])))],2⟩) (fun st=>O.length - ax st 7) ⟨_,((bA 5 2 1 (by simp only [jn,aj.get,bh,aj.put,↓reduceIte,reduceCtorEq,Nat.reduceLT,Nat.reduceEqDiff,Nat.reduceAdd,Nat.reduceLeDiff,eq_self,implies_true,VA,gC,Wr,VP])).trans (wS [0,1] (kf @VA (kf @gC.eq_1 @Wr)))),0,Vg _,rfl⟩ ?_;rintro _ ⟨m,hm,rfl⟩;have hil:=Fy x O m;by_cases hlt2:m<O.length
  .have hs:=FM x O m hlt2;obtain ⟨y,hy⟩:∃ y,y=O[m]:=⟨_,rfl⟩;have hry:(O.map fun n=>[eI n])[m]?.getD []=[eI y]:=by rw [hy];simp [hlt2]
   rw [<- hy] at hs;obtain ⟨n,b,hn⟩:∃ n b,gC x (O.take m)=(n,b):=⟨_,_,rfl⟩;rw [hn] at hs hil ⊢;simp only at hil;by_cases hxy:x<=y
   .have d1:decide (x<=y)=true:=VC hxy;by_cases hne:y=x
    .have d2:(y != x)=false:=by simp [hne]
     cases b with
     | true=>
      rw [Mc x y n hne] at hs
      repeat' first|refine gf (kf @hlt (kf @hlt2 (kf @hrx (kf @hry (kf d1 d2))))) ?_|decide|refine sp ?_ ?_<;>intro _|(with_reducible apply And.intro)
      all_goals first
       | rfl
       | omega
       | exact rI (wS [0,1] hs) ⟨m+1,by omega,rfl⟩
     | false=>
      rw [Ow x y n hxy hne] at hs;have e1:(n ++ [x]).map (fun n=>[eI n])=n.map (fun n=>[eI n]) ++ [[eI x]]:=(by simp)
      repeat' first|refine gf (kf @hlt (kf @hlt2 (kf @hrx (kf @hry (kf d1 d2))))) ?_|decide|refine sp ?_ ?_<;>intro _|(with_reducible apply And.intro)
      all_goals first
       | rfl
       | omega
       | exact rI (wS [0,3] (kf hs e1)) ⟨m+1,by omega,rfl⟩
    .have d2:(y != x)=true:=by simp [hne]
     cases b with
     | true=>
      rw [Ec x y n hne] at hs;have e1:(n ++ [y]).map (fun n=>[eI n])=n.map (fun n=>[eI n]) ++ [[eI y]]:=(by simp)
      repeat' first|refine gf (kf @hlt (kf @hlt2 (kf @hrx (kf @hry (kf d1 d2))))) ?_|decide|refine sp ?_ ?_<;>intro _|(with_reducible apply And.intro)
      all_goals first
       | rfl
       | omega
       | exact rI (wS [0,3] (kf hs e1)) ⟨m+1,by omega,rfl⟩
     | false=>
      rw [Lk x y n hxy hne] at hs;have e1:((n ++ [x]) ++ [y]).map (fun n=>[eI n])=(n.map (fun n=>[eI n]) ++ [[eI x]]) ++ [[eI y]]:=(by simp)
      repeat' first|refine gf (kf @hlt (kf @hlt2 (kf @hrx (kf @hry (kf d1 d2))))) ?_|decide|refine sp ?_ ?_<;>intro _|(with_reducible apply And.intro)
      all_goals first
       | rfl
       | omega
       | (simp;omega)
       | exact rI (wS [0,5] (kf hs e1)) ⟨m+1,by omega,rfl⟩
   .have d1:decide (x<=y)=false:=Vu hxy;have hne:y ≠ x:=(by omega);have d2:(y != x)=true:=(by simp [hne]);have e1:(n ++ [y]).map (fun n=>[eI n])=n.map (fun n=>[eI n]) ++ [[eI y]]:=(by simp)
    cases b with
    | true=>
     rw [Ec x y n hne] at hs
     repeat' first|refine gf (kf @hlt (kf @hlt2 (kf @hrx (kf @hry (kf d1 d2))))) ?_|decide|refine sp ?_ ?_<;>intro _|(with_reducible apply And.intro)
     all_goals first
      | rfl
      | omega
      | exact rI (wS [0,3] (kf hs e1)) ⟨m+1,by omega,rfl⟩
    | false=>
     rw [Nr x y n hxy] at hs
     repeat' first|refine gf (kf @hlt (kf @hlt2 (kf @hrx (kf @hry (kf d1 d2))))) ?_|decide|refine sp ?_ ?_<;>intro _|(with_reducible apply And.intro)
     all_goals first
      | rfl
      | omega
      | exact rI (wS [0,3] (kf hs e1)) ⟨m+1,by omega,rfl⟩
  .obtain rfl:m=O.length:=by omega
   rw [Vq] at hil ⊢;unfold wh at hst;obtain ⟨n,b,hn⟩:∃ n b,gC x O=(n,b):=⟨_,_,rfl⟩;rw [hn] at hst hil ⊢;simp only at hil
   cases b with
   | true=>
    simp only [↓reduceIte] at hst
    repeat' first|refine gf (kf @hlt (kf @hlt2 @hrx)) ?_|decide|refine sp ?_ ?_<;>intro _|(with_reducible apply And.intro)
    all_goals first
     | rfl
     | omega
     | exact rI (wS [1] @hst) ⟨k+1,by omega,rfl⟩
   | false=>
    simp only [↓reduceIte,VL] at hst;have e1:(n ++ [x]).map (fun n=>[eI n])=n.map (fun n=>[eI n]) ++ [[eI x]]:=(by simp)
    repeat' first|refine gf (kf @hlt (kf @hlt2 @hrx)) ?_|decide|refine sp ?_ ?_<;>intro _|(with_reducible apply And.intro)
    all_goals first
     | rfl
     | omega
     | exact rI (wS [3] (kf @hst e1)) ⟨k+1,by omega,rfl⟩
 .obtain rfl:k=l.length:=by omega
  repeat' first|refine gf (kf @hlt @Vq) ?_|decide|refine sp ?_ ?_<;>intro _
  exact aY (by simp [ae.gc])
theorem fY (l:List Int) (hl:l.length<=5000000):aw Tryz.prog 16 [sI l] ⟨sI (bV l),[],0⟩:=
 n7 2 ((wu l hl).mono fun R h=>.inl h)
def vF (c:List Int) (n:Int):Nat:=c.countP (fun x=>decide (x<n))
theorem Fh (c:List Int) (n:Int) (hc:Up c) (hl:c.length<=1000000):aw Tryz.prog 185 [sI c,eI n] ⟨.tup [eI (vF c n:Int),eB (decide (n ∈ c))],[],0⟩:=
 ⟨fb Tryz.func185 rfl (by decide),fun S w vs hS hn hv=>by
  obtain ⟨a,b,rfl⟩:=zl hn;obtain rfl:=Gj (hv 1 b _ rfl rfl);refine (KT c n a w hl (LI.of_rt (hv 0 a _ rfl rfl) hS)).mono fun e w' ⟨⟨r,h1,hF⟩,h2⟩=>?_;obtain ⟨e1,e2⟩:=u1 c n hc r hF.le (fun h0=>hF.lo h0 (by have:=hF.le;omega)) hF.hi;rw [e2,<- e1] at h1;refine ⟨_,fun _=>undef,_,rfl,⟨fun id o h=>(by cases h),⟨trivial,trivial,trivial⟩⟩,h1,⟨jQ h2,fun id o h=>(by cases h),fun id id' o o' g h=>(by cases h),fun b hb=>hb.elim⟩,.tree (.tup _ _ rfl fun j x av h3 h4=>?_)⟩
  match j with
  | 0=>simp at h3 h4;subst h3;subst h4;exact .c _
  | 1=>simp at h3 h4;subst h3;subst h4;exact .c _
  | j+2=>simp at h3⟩
structure fQ where
 attrs:Int
 const:Int
structure Zn where
 cls:List fQ
 gaps:List Int
abbrev cK (x:fQ):List AV:=[eI x.attrs,eI x.const]
abbrev cu (z:Zn):List AV:=[.sl 2 (z.cls.map cK),sI z.gaps]
def rf {α:Type} (p:α -> Bool) (l:List α):Int:=match l.findIdx? p with | some k=>(k:Int) | none=>-1
theorem xP {α:Type} {p:α -> Bool} {l:List α} {k:Nat} (hk:k<l.length) (h:p l[k]=true) (hn:∀ i (h:i<k),p (l[i]'(by omega))=false):rf p l=(k:Int):=by
 have:l.findIdx? p=some k:=List.findIdx?_eq_some_iff_getElem.2 ⟨hk,h,fun j hj=>by simp [hn j hj]⟩;unfold rf;rw [this]
theorem pC {α:Type} {p:α -> Bool} {l:List α} (h:∀ x ∈ l,p x=false):rf p l = -1:=by
 have:l.findIdx? p=none:=List.findIdx?_eq_none_iff.2 h;unfold rf;rw [this]
theorem Bt {α:Type} (p:α -> Bool) (l:List α):(rf p l = -1 /\ ∀ x ∈ l,p x=false) \/ ∃ k:Nat,∃ h:k<l.length,rf p l=(k:Int) /\ p l[k]=true /\ ∀ i (h:i<k),p (l[i]'(by omega))=false:=by
 unfold rf
 cases hf:l.findIdx? p with
 | none=>exact .inl ⟨rfl,List.findIdx?_eq_none_iff.1 hf⟩
 | some k=>
  obtain ⟨h1,h2,h3⟩:=List.findIdx?_eq_some_iff_getElem.1 hf;exact .inr ⟨k,h1,rfl,h2,fun i hi=>by simpa using h3 i hi⟩
theorem Jw {α:Type} (p:α -> Bool) (l:List α):decide (0<=rf p l)=l.any p:=by
 rcases Bt p l with ⟨h1,h2⟩|⟨k,hk,h1,h2,_⟩
 .rw [h1];symm;simpa using h2
 .rw [h1];have:l.any p=true:=Xz.2 ⟨_,Vf hk,h2⟩;rw [this];simp
def Dg (c:List Int) (a n:Int) (x:fQ):Bool:=(a != -1 && bp x.attrs a) || (a == -1 && decide (n ∈ c) && x.const == (vF c n:Int))
def eQ (z:Zn) (consts:List Int) (a n:Int):Int:=rf (Dg (bV consts) a n) z.cls
def uk (z:Zn) (consts:List Int) (la ln ra rn:Int):Int:=
 if eQ z consts la ln<0 \/ eQ z consts ra rn<0 then 0 else yY (eQ z consts la ln) (eQ z consts ra rn)
theorem EN (g:FuncId) (caps:List AV) (l:List fQ) (p:fQ -> Bool) (hl:l.length<=1000000) (ht:aM caps) (hp:∀ x ∈ l,aw Tryz.prog g (.agg (cK x) :: caps) (val (.bool (p x)))):aw Tryz.prog 187 [.sl 2 (l.map cK),.fn g caps] (val (.int .i64 (rf p l))):=by
 refine aa ag Tryz.func187 rfl (by decide) Tryz.ntmps187 Tryz.results187 rfl (aL _) ?_;have hlt0:AV.ltL 0 caps:=tE ht
 repeat' first|refine go ?_|decide|refine sp ?_ ?_<;>intro _
 refine af (fun st=>∃ k:Nat,k<=l.length /\ (∀ i (h:i<l.length),i<k -> p l[i]=false) /\ st=⟨19,[(0,.sl 2 (l.map cK)),(1,.fn g caps),(7,eI (l.length:Int)),(8,eI (k:Int))],[],0⟩) (fun st=>l.length - ax st 8) ⟨_,(wE @hlt0),0,Vg _,fun i _ h=>by omega,rfl⟩ ?_;rintro _ ⟨k,hk,hn,rfl⟩;by_cases hlt:k<l.length
 .repeat' first|refine go ?_|simp only [ab,hlt]|decide|refine sp ?_ ?_<;>intro _
  refine Ds (args:=[_]) ht (hp _ (Vf hlt)) ?_
  repeat' first|refine go ?_|simp only [ab,hlt]|decide|refine sp ?_ ?_<;>intro _
  .rename_i h;rw [xP hlt h fun i hi=>hn i (by omega) hi]
  .rename_i h;refine rI (wE @hlt0) ⟨k+1,by omega,fun i hi h2=>?_,rfl⟩;rcases Vv i k with h3|h3
   .exact hn i hi h3
   .obtain rfl:i=k:=by omega
    exact h
 .obtain rfl:k=l.length:=by omega
  repeat' first|refine ge @hlt ?_|decide|refine sp ?_ ?_<;>intro _
  rw [pC fun x hx=>by obtain ⟨i,hi,rfl⟩:=VB hx;exact hn i hi hi]
theorem IR (c:List Int) (a n:Int) (x:fQ):aw Tryz.prog 188 [.agg (cK x),.rp [eI a,eI n],.rp [eB (decide (n ∈ c))],.rp [eI (vF c n:Int)]] (val (.bool (Dg c a n x))):=by
 refine aa ag Tryz.func188 rfl (by decide) Tryz.ntmps188 Tryz.results188 rfl (aL _) ?_
 repeat' first|refine gq ?_|decide|refine sp ?_ ?_<;>intro _|((with_reducible first|apply ay (g:=129)|apply aP (g:=129));exact (mT x.attrs a))
 all_goals simp_all [Dg]
theorem rM (z:Zn) (consts:List Int) (a n:Int) (h1:z.cls.length<=1000000) (h2:consts.length<=1000000):aw Tryz.prog 165 [.agg (cu z),sI consts,.agg [eI a,eI n]] (val (.int .i64 (eQ z consts a n))):=by
 refine aa ag Tryz.func165 rfl (by decide) Tryz.ntmps165 Tryz.results165 rfl (aL _) ?_;have hlen:=fy consts;have hS:=yV consts h2;have hF:=Fh (bV consts) n (il consts).1 (by omega);have hI:=EN 188 [.rp [eI a,eI n],.rp [eB (decide (n ∈ bV consts))],.rp [eI (vF (bV consts) n:Int)]] z.cls (Dg (bV consts) a n) h1 (by simp [aM,aU]) (fun x _=>IR (bV consts) a n x)
 repeat' first|refine go ?_|decide|refine sp ?_ ?_<;>intro _
 refine ap [] [0,2,3] (.three 1 (.three 4 (.take 5 (.take 6 (.take 7 (.two 8 (.exec 9 (.exec 10 (.exec 11 .done))) 9 (.exec 8 (.exec 10 (.exec 11 .done))))))) 8 (.two 4 (.take 5 (.take 6 (.take 7 (.exec 9 (.exec 10 (.exec 11 .done)))))) 9 (.exec 4 (.take 5 (.take 6 (.take 7 (.exec 10 (.exec 11 .done))))))) 9 (.two 4 (.take 5 (.take 6 (.take 7 (.exec 8 (.exec 10 (.exec 11 .done)))))) 8 (.exec 4 (.take 5 (.take 6 (.take 7 (.exec 10 (.exec 11 .done)))))))) 8 (.two 1 (.two 4 (.take 5 (.take 6 (.take 7 (.exec 9 (.exec 10 (.exec 11 .done)))))) 9 (.exec 4 (.take 5 (.take 6 (.take 7 (.exec 10 (.exec 11 .done))))))) 9 (.exec 1 (.exec 4 (.take 5 (.take 6 (.take 7 (.exec 10 (.exec 11 .done)))))))) 9 (.two 1 (.two 4 (.take 5 (.take 6 (.take 7 (.exec 8 (.exec 10 (.exec 11 .done)))))) 8 (.exec 4 (.take 5 (.take 6 (.take 7 (.exec 10 (.exec 11 .done))))))) 8 (.exec 1 (.exec 4 (.take 5 (.take 6 (.take 7 (.exec 10 (.exec 11 .done))))))))) (by kernel_rfl) (by simp [ae.gc]) ?_
 repeat' first|refine gq ?_|decide|refine sp ?_ ?_<;>intro _|refine cA hS ?_|refine cA hF ?_|(with_reducible apply And.intro)|refine cA hI ?_|fail
 all_goals rfl
end
section
theorem zY (a:Int):aw Tryz.prog 191 [eI a] (val (.bool false)):=by
 refine aa ag Tryz.func191 rfl (by decide) Tryz.ntmps191 Tryz.results191 rfl (aL _) ?_;have h:(a != a)=false:=by simp
 repeat' first|refine gf h ?_|decide|refine sp ?_ ?_<;>intro _
theorem PA (a b:Int):aw Tryz.prog 171 [eI a,eI b] (val (.int .i64 (yY a b))):=by
 refine aa ag Tryz.func171 rfl (by decide) Tryz.ntmps171 Tryz.results171 rfl (aL _) ?_
 repeat' first|refine gq ?_|decide|refine sp ?_ ?_<;>intro _|((with_reducible first|apply ay (g:=191)|apply aP (g:=191));exact (zY a))|((with_reducible first|apply ay (g:=191)|apply aP (g:=191));exact (zY b))
 all_goals (simp only [yY];simp_all;try omega)
theorem Bo (z:Zn) (consts:List Int) (la ln ra rn:Int) (h1:z.cls.length<=1000000) (h2:consts.length<=1000000):aw Tryz.prog 136 [.agg (cu z),sI consts,.agg [eI la,eI ln],.agg [eI ra,eI rn]] (val (.int .i64 (uk z consts la ln ra rn))):=by
 refine aa ag Tryz.func136 rfl (by decide) Tryz.ntmps136 Tryz.results136 rfl (aL _) ?_;unfold uk
 repeat' first|refine gq ?_|decide|refine sp ?_ ?_<;>intro _|((with_reducible first|apply ay (g:=165)|apply aP (g:=165));exact (rM z consts la ln h1 h2))|((with_reducible first|apply ay (g:=165)|apply aP (g:=165));exact (rM z consts ra rn h1 h2))|((with_reducible first|apply ay (g:=171)|apply aP (g:=171));exact (PA _ _))
 all_goals (simp_all;try omega)
theorem E5 (g:FuncId) (caps:List AV) (l:List (ah)) (p:ah -> Bool) (hl:l.length<=1000000) (ht:aM caps) (hp:∀ x ∈ l,aw Tryz.prog g (.agg (bX x) :: caps) (val (.bool (p x)))):aw Tryz.prog 184 [aR l,.fn g caps] (val (.int .i64 (rf p l))):=by
 refine aa ag Tryz.func184 rfl (by decide) Tryz.ntmps184 Tryz.results184 rfl (aL _) ?_;have hlt0:AV.ltL 0 caps:=tE ht
 repeat' first|refine go ?_|decide|refine sp ?_ ?_<;>intro _
 refine af (fun st=>∃ k:Nat,k<=l.length /\ (∀ i (h:i<l.length),i<k -> p l[i]=false) /\ st=⟨19,[(0,aR l),(1,.fn g caps),(7,eI (l.length:Int)),(8,eI (k:Int))],[],0⟩) (fun st=>l.length - ax st 8) ⟨_,(wE @hlt0),0,Vg _,fun i _ h=>by omega,rfl⟩ ?_;rintro _ ⟨k,hk,hn,rfl⟩;by_cases hlt:k<l.length
 .repeat' first|refine go ?_|simp only [ab,hlt]|decide|refine sp ?_ ?_<;>intro _
  refine Ds (args:=[_]) ht (hp _ (Vf hlt)) ?_
  repeat' first|refine go ?_|simp only [ab,hlt]|decide|refine sp ?_ ?_<;>intro _
  .rename_i h;rw [xP hlt h fun i hi=>hn i (by omega) hi]
  .rename_i h;refine rI (wE @hlt0) ⟨k+1,by omega,fun i hi h2=>?_,rfl⟩;rcases Vv i k with h3|h3
   .exact hn i hi h3
   .obtain rfl:i=k:=by omega
    exact h
 .obtain rfl:k=l.length:=by omega
  repeat' first|refine ge @hlt ?_|decide|refine sp ?_ ?_<;>intro _
  rw [pC fun x hx=>by obtain ⟨i,hi,rfl⟩:=VB hx;exact hn i hi hi]
theorem xB (g:FuncId) (caps:List AV) (l:List (ah)) (p:ah -> Bool) (hl:l.length<=1000000) (ht:aM caps) (hp:∀ x ∈ l,aw Tryz.prog g (.agg (bX x) :: caps) (val (.bool (p x)))):aw Tryz.prog 162 [aR l,.fn g caps] (val (.bool (l.any p))):=by
 refine aa ag Tryz.func162 rfl (by decide) Tryz.ntmps162 Tryz.results162 rfl (aL _) ?_
 repeat' first|refine go ?_|decide|refine sp ?_ ?_<;>intro _
 refine ay (by simp only [VY,VP,gt];rw [show caps.map (ij [])=caps from qK ht];exact E5 g caps l p hl ht hp) ?_
 repeat' first|refine go ?_|decide|refine sp ?_ ?_<;>intro _
 rw [Jw]
def gG (x:ah):Bool:=decide (3<=x.op) && decide (x.op<=8)
theorem Az (x:ah):aw Tryz.prog 164 [.agg (bX x)] (val (.bool (gG x))):=by
 refine aa ag Tryz.func164 rfl (by decide) Tryz.ntmps164 Tryz.results164 rfl (aL _) ?_;unfold gG
 repeat' first|refine gq ?_|decide|refine sp ?_ ?_<;>intro _
 all_goals grind
def g9 (z:Zn) (c:List Int) (x:ah):Bool:=gG x && (decide (eQ z c x.la x.ln<0) || decide (eQ z c x.ra x.rn<0))
def kT (l:List ah) (z:Zn) (c:List Int):Bool:=!(l.any (g9 z c))
theorem H9 (z:Zn) (c:List Int) (x:ah) (h1:z.cls.length<=1000000) (h2:c.length<=1000000):aw Tryz.prog 163 [.agg (bX x),.rp (cu z),.rp [sI c]] (val (.bool (g9 z c x))):=by
 refine aa ag Tryz.func163 rfl (by decide) Tryz.ntmps163 Tryz.results163 rfl (aL _) ?_;unfold g9
 repeat' first|refine gq ?_|decide|refine sp ?_ ?_<;>intro _|((with_reducible first|apply ay (g:=164)|apply aP (g:=164));exact (Az x))|((with_reducible first|apply ay (g:=165)|apply aP (g:=165));exact (rM z c x.la x.ln h1 h2))|((with_reducible first|apply ay (g:=165)|apply aP (g:=165));exact (rM z c x.ra x.rn h1 h2))
 all_goals (simp_all;try omega)
theorem NK (l:List ah) (z:Zn) (c:List Int) (hl:l.length<=1000000) (h1:z.cls.length<=1000000) (h2:c.length<=1000000):aw Tryz.prog 133 [aR l,.agg (cu z),sI c] (val (.bool (kT l z c))):=by
 refine aa ag Tryz.func133 rfl (by decide) Tryz.ntmps133 Tryz.results133 rfl (aL _) ?_;unfold kT;have hC:=xB 163 [.rp (cu z),.rp [sI c]] l (g9 z c) hl (by simp [aM,aU]) (fun x _=>H9 z c x h1 h2)
 repeat' first|refine gq ?_|decide|refine sp ?_ ?_<;>intro _|refine cA hC ?_|fail
theorem FW (z:Zn) (c:List Int) (la ln ra rn:Int) (h1:z.cls.length<=1000000) (h2:c.length<=1000000):aw Tryz.prog 135 [.agg [eI la,eI ln],.agg [eI ra,eI rn],.rp (cu z),.rp [sI c]] (val (.int .i64 (uk z c la ln ra rn))):=by
 refine aa ag Tryz.func135 rfl (by decide) Tryz.ntmps135 Tryz.results135 rfl (aL _) ?_
 repeat' first|refine gq ?_|decide|refine sp ?_ ?_<;>intro _|((with_reducible first|apply ay (g:=136)|apply aP (g:=136));exact (Bo z c la ln ra rn h1 h2))
theorem OD (g:FuncId) (caps:List AV) (l:List ah) (s:St) (f:Int -> Int -> Int -> Int -> Int) (hl:l.length<=900) (ho:∀ x ∈ l,x.ok)
  (hg:∀ la ln ra rn,aw Tryz.prog g (.agg [eI la,eI ln] :: .agg [eI ra,eI rn] :: caps) (val (.int .i64 (f la ln ra rn)))) :
  aw Tryz.prog 134 [aR l,.fn g caps,.agg (gE s)] ⟨.tup [eB (jf (gj (fun x=>some (f x.la x.ln x.ra x.rn)) s.opn s.don l)),eI (rg (gj (fun x=>some (f x.la x.ln x.ra x.rn)) s.opn s.don l))],[],0⟩:=
 ⟨fb Tryz.func134 rfl (by decide),fun S w vs hS hn hv=>by
  obtain ⟨a,fv,b,rfl⟩:∃ a fv b,vs = #[a,fv,b]:=⟨vs[0]'(by simp at hn;omega),vs[1]'(by simp at hn;omega),vs[2]'(by simp at hn;omega),by
   apply Array.ext (by simpa using hn);intro i h1 h2;simp at h2
   match i with
   | 0=>rfl
   | 1=>rfl
   | 2=>rfl
   | i+3=>omega⟩
  have hf:=hv 1 fv _ rfl rfl;have hb:=hv 2 b _ rfl rfl
  cases hf with
  | fn _ ys _ hyn hyr=>
  cases hb with
  | agg xs cs hxn hr=>
   have hx:∀ j (hj:j<5),∃ x,xs[j]? = some x:=fun j hj=>⟨_,Vj (by simp at hxn;omega)⟩;obtain ⟨x0,e0⟩:=hx 0 (by omega);obtain ⟨x1,e1⟩:=hx 1 (by omega);obtain ⟨x2,e2⟩:=hx 2 (by omega);obtain ⟨x3,e3⟩:=hx 3 (by omega);obtain ⟨x4,e4⟩:=hx 4 (by omega)
   have hxs:xs = #[x0,x1,x2,x3,x4]:=by
    apply Array.ext_getElem?;intro j
    match j with
    | 0=>simpa using e0
    | 1=>simpa using e1
    | 2=>simpa using e2
    | 3=>simpa using e3
    | 4=>simpa using e4
    | j+5=>
     rw [Array.getElem?_eq_none (by simp at hxn;omega)];simp
   obtain rfl:=Gj (hr 1 x1 _ e1 rfl);obtain rfl:=Gj (hr 2 x2 _ e2 rfl);subst hxs
   have hles:∀ x ∈ l,ks g ys (fun x=>some (f x.la x.ln x.ra x.rn)) x w:=fun x _ w' hw'=>by
    refine (hg x.la x.ln x.ra x.rn).calls (by simp [hyn];omega) (fun j v av h3 h4=>?_) (hS.amb.below hw')
    match j with
    | 0=>
     rw [V5 (by simp)] at h3;simp at h3 h4;subst h3;subst h4;refine .agg _ _ rfl fun i u av h5 h6=>?_
     match i with
     | 0=>simp at h5 h6;subst h5;subst h6;exact .c _
     | 1=>simp at h5 h6;subst h5;subst h6;exact .c _
     | i+2=>simp at h5
    | 1=>
     rw [V5 (by simp)] at h3;simp at h3 h4;subst h3;subst h4;refine .agg _ _ rfl fun i u av h5 h6=>?_
     match i with
     | 0=>simp at h5 h6;subst h5;subst h6;exact .c _
     | 1=>simp at h5 h6;subst h5;subst h6;exact .c _
     | i+2=>simp at h5
    | j+2=>
     have h3':ys[j]? = some v:=by
      rw [Xg (by simp)] at h3;simpa using h3
     have h4':caps[j]? = some av:=(by simpa using h4);exact (hyr j v av h3' h4').mono (fun p hp=>hw'.cell (hS _ hp)) (fun b hb=>Vm (hS b hb) hw'.size)
   have hcf:∀ (args:Array Value) (w:World),(callFunc g args).run Tryz.prog w=.ok (.enter g args) w:=(hg 0 0 0 0).1;refine (GN l a S g ys x0 s.opn s.don x3 x4 w (JY (hv 0 a _ rfl rfl) ho) hS hl hcf _ hles).mono fun e w' ⟨h1,h2⟩=>?_;refine ⟨_,fun _=>undef,_,rfl,⟨fun id o h=>(by cases h),⟨trivial,trivial,trivial⟩⟩,h1,⟨jQ h2,fun id o h=>(by cases h),fun id id' o o' g h=>(by cases h),fun b hb=>hb.elim⟩,.tree (.tup _ _ rfl fun j x av h3 h4=>?_)⟩
   match j with
   | 0=>simp at h3 h4;subst h3;subst h4;exact .c _
   | 1=>simp at h3 h4;subst h3;subst h4;exact .c _
   | j+2=>simp at h3⟩
def cc (l:List ah) (z:Zn) (c:List Int) (s:St):Option Bool:=if kT l z c=true then gj (fun x=>some (uk z c x.la x.ln x.ra x.rn)) s.opn s.don l else none
theorem Ip (l:List ah) (z:Zn) (c:List Int) (s:St) (hl:l.length<=900) (ho:∀ x ∈ l,x.ok) (h1:z.cls.length<=1000000) (h2:c.length<=1000000):aw Tryz.prog 92 [aR l,.agg (cu z),sI c,.agg (gE s)] ⟨.tup [eB (jf (cc l z c s)),eI (rg (cc l z c s))],[],0⟩:=by
 have hok:(⟨.tup [eB (jf (cc l z c s)),eI (rg (cc l z c s))],[],0⟩:cM).Ok:=⟨fun id o h=>(by cases h),by simp [AV.lt,AV.ltL]⟩;refine aa ag Tryz.func92 rfl (by decide) Tryz.ntmps92 Tryz.results92 rfl (hok) ?_;have hK:=NK l z c (by omega) h1 h2;have hS:=OD 135 [.rp (cu z),.rp [sI c]] l s (uk z c) hl ho (fun la ln ra rn=>FW z c la ln ra rn h1 h2)
 cases hk:kT l z c with
 | true=>
  rw [hk] at hK;have hz:cc l z c s=gj (fun x=>some (uk z c x.la x.ln x.ra x.rn)) s.opn s.don l:=by unfold cc;rw [Vn hk]
  rw [hz]
  repeat' first|refine gq ?_|decide|refine sp ?_ ?_<;>intro _|refine cA hK ?_|(((with_reducible apply cZ);exact hS;exact (.inr (by simp [AV.plain,AV.plainL]))))
  all_goals exact aX (by first|rfl|simp [AV.ren,AV.renL])
 | false=>
  rw [hk] at hK;have hz:cc l z c s=none:=by unfold cc;rw [Vh (by simp [hk])]
  rw [hz]
  repeat' first|refine gq ?_|decide|refine sp ?_ ?_<;>intro _|refine cA hK ?_|fail
  all_goals exact aX (by first|rfl|simp [AV.ren,AV.renL,jf,rg])
end
end
end Go.Proofs.YtmmoidfcfjklaaaGreat
