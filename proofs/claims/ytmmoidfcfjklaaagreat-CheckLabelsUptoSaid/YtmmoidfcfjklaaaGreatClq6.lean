/-
  Parts of the proof: Clp11, Clp12, Clp13.
-/
import Derived.Test.YtmmoidfcfjklaaaGreatClq5
import Derived.TacticsIn
import Derived.RangeFuncIn
import Derived.RangeFuncCalls
import Derived.RangeFuncRecord
import Derived.WalkKit
import Derived.WalkLawsBesides
import Derived.Test.YtmmoidfcfjklaaaGreatSortShelf
import Derived.Deep.LoopGhost
import Derived.Deep.Draws
import Derived.Deep.QuietTactic
import Derived.OpenShut
import Derived.ProofKit
import Derived.Lib.SlicesCompact
import Derived.Deep.AppendLies
import Derived.Deep.DeepCutAuto
import Derived.Sort.OwnSortedInts
set_option linter.unusedVariables false
set_option linter.unusedSimpArgs false
set_option linter.defProp false
set_option maxRecDepth 100000
set_option maxHeartbeats 16000000
namespace Go.Proofs.YtmmoidfcfjklaaaGreat
open Go.RowKit
section
section
section
variable {P:Program} {f:FuncId} {args:List AV}
theorem OI {cx:Cx} {w':World} {L:Nat -> Value} {v:Value} {R:cS} (h5:R.Ok) (h7:je cx w' R.tab L) (h8:bQ cx w' R.tab L v R.r) (id:Nat):(R.frz id).Ok /\ je cx w' (R.frz id).tab L /\ bQ cx w' (R.frz id).tab L v (R.frz id).r:=by
 unfold cS.frz;split
 .rename_i e' sz rows hid;obtain ⟨h9,h10⟩:=td h7 (fun k o hk=>(h5.young k o hk).2) hid;refine ⟨⟨fun k o hk=>?_,nK h5.lt⟩,h9,h10 v _ h8 h5.lt⟩;simp only [af.gc,dh] at hk;split at hk
  .cases hk
  .cases hg:R.tab.get k with
   | none=>simp [hg] at hk
   | some o'=>
    simp [hg] at hk;subst hk;exact ⟨(h5.young k o' hg).1,nw (h5.young k o' hg).2⟩
 .exact ⟨h5,h7,h8⟩
theorem Bg {cx:Cx} {w':World} {L:Nat -> Value} {v:Value}:∀ (ids:List Nat) {R:cS},R.Ok -> je cx w' R.tab L -> bQ cx w' R.tab L v R.r -> (R.frzs ids).Ok /\ je cx w' (R.frzs ids).tab L /\ bQ cx w' (R.frzs ids).tab L v (R.frzs ids).r
 | [],R,h1,h2,h3=>⟨h1,h2,h3⟩
 | id :: ids,R,h1,h2,h3=>by
  obtain ⟨h4,h5,h6⟩:=OI h1 h2 h3 id;exact Bg ids h4 h5 h6
inductive oG:AV -> AV -> Prop
 | one {a b:AV} (h:sA a b):oG a b
 | tup {l l':List AV} (h:qm l l'):oG (.tup l) (.tup l')
theorem Ik {w:World} {S:Nat -> Prop} {K:Nat -> Option (Nat × Value)} {x:Value} {av:AV} (h:RV w S K x av):av.lt 0 -> RT w S x av:=by
 induction h with
 | tree h=>exact fun _=>h
 | osl x id h=>exact fun h2=>by simp [AV.lt] at h2
 | op x id i j h=>exact fun h2=>by simp [AV.lt] at h2
 | agg xs cs hn hr ih=>
  intro h2;simp only [AV.lt] at h2;exact .agg xs cs hn fun j x av h3 h4=>ih j x av h3 h4 (ak.1 h2 av (Os h4))
 | tup xs cs hn hr ih=>
  intro h2;simp only [AV.lt] at h2;exact .tup xs cs hn fun j x av h3 h4=>ih j x av h3 h4 (ak.1 h2 av (Os h4))
 | fn f xs cs hn hr ih=>
  intro h2;simp only [AV.lt] at h2;exact .fn f xs cs hn fun j x av h3 h4=>ih j x av h3 h4 (ak.1 h2 av (Os h4))
 | bfn f xs cs hn hr ih=>
  intro h2;simp only [AV.lt] at h2;exact .bfn f xs cs hn fun j x av h3 h4=>ih j x av h3 h4 (ak.1 h2 av (Os h4))
theorem RT.tup_inv {w:World} {S:Nat -> Prop} {x:Value} {cs:List AV} (h:RT w S x (.tup cs)):∃ xs:Array Value,x=.tuple xs /\ xs.size=cs.length /\ ∀ (j:Nat) (x:Value) (av:AV),xs[j]? = some x -> cs[j]? = some av -> RT w S x av:=by
 cases h with
 | tup xs _ hn hr=>exact ⟨xs,rfl,hn,hr⟩
theorem oG.rt {w:World} {S:Nat -> Prop} {v:Value} {a b:AV} (h:oG a b) (hr:RT w S v a):RT w S v b:=by
 cases h with
 | one h=>exact h.rt hr
 | @tup l l' h=>
  obtain ⟨xs,rfl,hn,hx⟩:=hr.tup_inv;obtain ⟨h1,h2⟩:=h.spec;refine .tup xs l' (by omega) fun j x av h3 h4=>?_
  have hj:j<l.length:=by
   have:=(Vf.1 h4).1;omega
  have h5:l[j]? = some l[j]:=p0 hj;exact (h2 j _ av h5 h4).rt (hx j x _ h3 h5)
theorem ls {R:cS} (h1:cX R.n R.tab) (h2:R.r.lt R.n):R.Ok:=by
 refine ⟨?_,h2⟩;revert h1;generalize R.tab=T
 induction T with
 | nil=>exact fun _ id o h=>by cases h
 | cons p T ih=>
  obtain ⟨k,ob⟩:=p;intro h1 id o h;rw [af.gc] at h
  cases ob with
  | none=>
   simp only [cX] at h1;split at h
   .cases h
   .exact ih h1 id o h
  | some ob=>
   simp only [cX] at h1;split at h
   .rename_i e;cases h;exact ⟨by rw [e];exact h1.1.1,h1.1.2⟩
   .exact ih h1.2 id o h
theorem dQ.tree {Post:cS -> Prop} {r':AV} (h:dQ P f args Post) (hl:r'.lt 0) (hp:∀ R,Post R -> ∃ ids,(R.frzs ids).r.lt 0 /\ oG (R.frzs ids).r r'):aw P f args ⟨r',[],0⟩:=
 ⟨h.1,fun S w vs h1 h2 h3=>(h.2 S w vs h1 h2 h3).mono fun e w' ⟨v,L,R,h4,h5,h6,h7,h8⟩=>by
  obtain ⟨ids,ha,hc⟩:=hp R h4;obtain ⟨h9,h10,h11⟩:=Bg ids h5 h7 h8;have hext:mX (Cx.mk0 S w h1) w' (R.frzs ids).tab L 0 w' [] L:=⟨fun _ _=>rfl,fun b hb=>⟨hb.1,hb.2.1,fun k o hk=>(by cases hk)⟩,fun k p _ hk=>by simp [Kx,af.get] at hk⟩;have h12:=Ik (hext.rv h11 ha) ha;exact ⟨v,L,⟨r',[],0⟩,rfl,⟨fun id o hk=>(by cases hk),hl⟩,h6,⟨h10.below,fun id o hk=>(by cases hk),fun id id' o o' g hk=>(by cases hk),fun b hb=>hb.elim⟩,.tree (hc.rt h12)⟩⟩
end
theorem o6 {P:Program} {f:FuncId} {args:List AV} {e:TypeId} {sz:Nat} {rows:List (List AV)} (h:dQ P f args fun R=>R=g8 e sz rows \/ (R=val (.slice none 0 0) /\ rows=[])):aw P f args ⟨.sl sz rows,[],0⟩:=
 h.tree (by simp [AV.lt]) fun R hR=>by
  rcases hR with rfl|⟨rfl,rfl⟩
  .refine ⟨[0],?_⟩;have e:((g8 e sz rows).frzs [0]).r=.sl sz rows:=(by simp [cS.frzs,cS.frz,g8,af.gc,AV.frz]);rw [e];exact ⟨trivial,.one (.one (.refl _))⟩
  .exact ⟨[],trivial,.one (.one (.nil sz))⟩
def lc (m:bl):St:=⟨m.inits,0,0,List.replicate m.events.length 0,List.replicate m.events.length 0⟩
def eE (m:bl):cS:=⟨.agg [sI m.inits,eI 0,eI 0,.osl 0,.osl 1],[(0,some (.row 3 1 ((List.replicate m.events.length 0).map fun n=>[eI n]))),(1,some (.row 3 1 ((List.replicate m.events.length 0).map fun n=>[eI n])))],2⟩
end
section
def eT (m:bl):St:=l5 m (-1) (lc m) m.order.length
theorem FX (m:bl) (hl:m.inits.length<=1000000) (hl2:m.events.length<=1000000):aw Tryz.prog 113 [.agg (aQ m)] ⟨.agg (gh (lc m)),[],0⟩:=by
 refine aw.still (R:=⟨.agg [.osl 2,eI 0,eI 0,.osl 0,.osl 1],(2,some (.row 2 1 (m.inits.map fun n=>[eI n]))) :: (eE m).tab,3⟩) [0,1,2] ?_ ?_ (by simp [AV.lt,AV.ltL])
 .refine aa ag Tryz.func113 rfl (by decide) Tryz.ntmps113 Tryz.results113 rfl (ls (by simp [eE,cX,aD.lt,AV.ltL,AV.lt]) (by simp [AV.lt,AV.ltL])) ?_
  repeat' first|refine go ?_|decide|refine sp ?_ ?_<;>intro _
  refine ay [1] [1,2,4,6] (.three 0 (.three 3 (.two 5 (.exec 7 (.take 8 (.exec 9 .done))) 7 (.exec 5 (.take 8 (.exec 9 .done)))) 5 (.two 3 (.exec 7 (.take 8 (.exec 9 .done))) 7 (.exec 3 (.take 8 (.exec 9 .done)))) 7 (.two 3 (.exec 5 (.take 8 (.exec 9 .done))) 5 (.exec 3 (.take 8 (.exec 9 .done))))) 5 (.two 0 (.two 3 (.exec 7 (.take 8 (.exec 9 .done))) 7 (.exec 3 (.take 8 (.exec 9 .done)))) 7 (.exec 0 (.exec 3 (.take 8 (.exec 9 .done))))) 7 (.two 0 (.two 3 (.exec 5 (.take 8 (.exec 9 .done))) 5 (.exec 3 (.take 8 (.exec 9 .done)))) 5 (.exec 0 (.exec 3 (.take 8 (.exec 9 .done)))))) (by kernel_rfl) (by simp [af.gc]) ?_
  repeat' first|refine gq ?_|decide|refine sp ?_ ?_<;>intro _|(with_reducible apply And.intro)
  all_goals first
   | omega
   | rfl
   | exact ⟨[2,3,4],by decide,rfl,by simp [cM,eE,af.gc]⟩
   | exact ⟨[2,3,5],by decide,rfl,by simp [cM,eE,af.gc]⟩
   | exact ⟨[2,4,3],by decide,rfl,by simp [cM,eE,af.gc]⟩
   | exact ⟨[2,4,5],by decide,rfl,by simp [cM,eE,af.gc]⟩
   | exact ⟨[2,5,3],by decide,rfl,by simp [cM,eE,af.gc]⟩
   | exact ⟨[2,5,4],by decide,rfl,by simp [cM,eE,af.gc]⟩
   | exact ⟨[3,2,4],by decide,rfl,by simp [cM,eE,af.gc]⟩
   | exact ⟨[3,2,5],by decide,rfl,by simp [cM,eE,af.gc]⟩
   | exact ⟨[3,4,5],by decide,rfl,by simp [cM,eE,af.gc]⟩
   | exact ⟨[3,5,4],by decide,rfl,by simp [cM,eE,af.gc]⟩
   | exact ⟨[4,2,5],by decide,rfl,by simp [cM,eE,af.gc]⟩
   | exact ⟨[4,3,5],by decide,rfl,by simp [cM,eE,af.gc]⟩
   | exact ⟨[4,5,3],by decide,rfl,by simp [cM,eE,af.gc]⟩
   | exact ⟨[5,2,4],by decide,rfl,by simp [cM,eE,af.gc]⟩
   | exact ⟨[5,4,3],by decide,rfl,by simp [cM,eE,af.gc]⟩
   | exact ⟨[5,3,4],by decide,rfl,by simp [cM,eE,af.gc]⟩
 .simp [eE,lc,cS.frzs,cS.frz,af.gc,AV.frz,AV.frzL,b8,aD.frz]
theorem Gl (m:bl) (hf:uX m) (hp:∀ p ∈ m.stages,aF p.2):aw Tryz.prog 71 [.agg (aQ m)] ⟨.agg (gh (eT m)),[],0⟩:=by
 refine aa ag Tryz.func71 rfl (by decide) Tryz.ntmps71 Tryz.results71 rfl (T6 _) ?_;obtain ⟨-,-,-,hel,-,-,-,-,-,hil⟩:=id hf.sizes;have z:cR 0:=by unfold cR;omega
 repeat' first|refine go ?_|decide|refine sp ?_ ?_<;>intro _
 refine ay [1] [0,1] (.exec 2 (.exec 3 (.exec 4 .done))) (by kernel_rfl) (by simp [af.gc]) ?_
 repeat' first|refine gq ?_|decide|refine sp ?_ ?_<;>intro _|((with_reducible apply bJ (g:=113));exact (FX _ (by omega) (by omega));exact (ro))|((with_reducible apply bJ (g:=112));exact (IP m (lc m) (-1) hf hp z z);exact (ro))
 exact aV (by simp [AV.ren,AV.renL,eT])
end
section
noncomputable def se (m:bl) (s:St):Bool:=fg (fun e=>fg (fun u=>dZ m s (e:Int) (u:Int)) m.users.length) m.events.length
theorem rF {r' av:AV} {st:aj} (hr:av.ren []=av) (hl:av.lt 0) (hf:oG av r'):∃ R:cS,(∃ ids,(R.frzs ids).r.lt 0 /\ oG (R.frzs ids).r r') /\ R.Ok /\ d9 R st av:=⟨⟨av,[],0⟩,⟨[],hl,hf⟩,⟨fun id o h=>(by cases h),hl⟩,aV hr⟩
end
section
section
variable {P:Program} {cx:Cx} {a:Act} {w w' w'':World} {st:aj} {tab tab' tab'':af} {L L' L'':Nat -> Value} {nx nx' nx'':Nat}
theorem bN (st:aj) (d:Option Nat) (av:AV):(st.put d av).tab=st.tab:=by cases d<;>rfl
theorem bK (st:aj) (d:Option Nat) (av:AV):(st.put d av).next=st.next:=by cases d<;>rfl
theorem pK (h:aH cx a w st L) (hb:Below w.heap.size w w') {v:Value} {ob:aD} (hnew:∀ g,aO v=some g -> w.heap.size<=g):Fr cx w st.tab L st.next w' ((st.next,some ob) :: st.tab) (br L st.next v) (st.next+1):=
 oJ (fun id o hid=>(h.young id o hid).1) hb (fun id hid=>by unfold br;rw [af.gc,Vj (by omega),Vj (by omega)];exact ⟨rfl,rfl⟩)
  (fun id o g h1 h2 h3=>by
   rw [af.gc] at h2;unfold br at h3;split at h2
   .rename_i e;rw [Vo e] at h3;exact hnew g h3
   .have:=(h.young id o h2).1;omega) (VS _)
theorem tq {id:Nat} {o o':aD} (hid:st.tab.get id=some o) (hsz:o'.sz=o.sz) (hs:w'.heap.size=w.heap.size) (hb:∀ k,aO (L id) ≠ some k -> w'.heap[k]? = w.heap[k]?):Fr cx w st.tab L st.next w' ((id,some o') :: st.tab) L st.next:=by
 have hget:∀ k ok,af.get ((id,some o') :: st.tab) k=some ok -> ∃ ok',st.tab.get k=some ok' /\ ok.sz=ok'.sz:=fun k ok hk=>by
  rw [af.gc] at hk;split at hk
  .rename_i e;cases hk;exact ⟨o,by rw [e];exact hid,hsz⟩
  .exact ⟨ok,hk,rfl⟩
 refine ⟨⟨fun b hb'=>hb b (hb'.2.2 id o hid),fun b hb'=>⟨by rw [hs];exact hb'.1,hb'.2.1,fun k ok hk=>?_⟩,fun k p _ hk=>?_⟩,by rw [hs];exact Vh _,fun k hk hn=>hb k (hn id o hid),fun k ok g h1 h2 _=>?_,Vh _⟩
 .obtain ⟨ok',h1,_⟩:=hget k ok hk;exact hb'.2.2 k ok' h1
 .unfold Kx at *
  cases ho:af.get ((id,some o') :: st.tab) k with
  | none=>simp [ho] at hk
  | some ok=>
   obtain ⟨ok',h1,h2⟩:=hget k ok ho;rw [h1];simpa [ho,h2] using hk
 .obtain ⟨ok',h3,_⟩:=hget k ok h1;exact ⟨k,ok',h3,h2⟩
theorem JY (h:aH cx a w st L) {v v':Value} {oid:Option Nat} {ob:aD} (hg:w.grownBy w' v.ownBlock) (hv:aO v'=v.ownBlock \/ aO v'=some w.heap.size)
  (hown:∀ g,v.ownBlock=some g -> ∃ id,oid=some id /\ aO (L id)=some g) (hoid:∀ id,oid=some id -> ∃ o,st.tab.get id=some o):Fr cx w st.tab L st.next w' (bT st.tab st.next oid ob) (br L st.next v') (st.next+1):=by
 have hnot:∀ k,(∀ id o,st.tab.get id=some o -> aO (L id) ≠ some k) -> some k ≠ v.ownBlock:=fun k hn e=>by
  obtain ⟨id,h1,h2⟩:=hown k e.symm;obtain ⟨o,h3⟩:=hoid id h1;exact hn id o h3 h2
 have hget:∀ k ok,(bT st.tab st.next oid ob).get k=some ok -> k=st.next \/ (k<st.next /\ st.tab.get k=some ok):=fun k ok hk=>by
  rw [bL] at hk;split at hk
  .exact .inl (by assumption)
  .split at hk
   .cases hk
   .exact .inr ⟨(h.young k ok hk).1,hk⟩
 refine ⟨⟨fun b hb=>hg.block b hb.1 (hnot b hb.2.2),fun b hb=>⟨Vn hb.1 hg.size,hb.2.1,fun k ok hk=>?_⟩,fun k p hlt hk=>?_⟩,hg.size,fun k hk hn=>hg.block k hk (hnot k hn),fun k ok g h1 h2 hlt=>?_,VS _⟩
 .unfold br;rcases hget k ok hk with rfl|⟨hlt,ho⟩
  .rw [Vo rfl];rcases hv with hv|hv
   .rw [hv];exact fun e=>hnot b hb.2.2 e.symm
   .rw [hv];intro e;cases e;exact absurd hb.1 (by omega)
  .rw [Vj (by omega)];exact hb.2.2 k ok ho
 .unfold Kx br at *;rw [Vj (by omega)] at hk
  cases ho:(bT st.tab st.next oid ob).get k with
  | none=>simp [ho] at hk
  | some ok=>
   rcases hget k ok ho with rfl|⟨_,h1⟩
   .omega
   .rw [h1];rw [ho] at hk;exact hk
 .unfold br at h2;rcases hget k ok h1 with rfl|⟨hlt',ho⟩
  .rw [Vo rfl] at h2;rcases hv with hv|hv
   .rw [hv] at h2;obtain ⟨id,h3,h4⟩:=hown g h2;obtain ⟨o,h5⟩:=hoid id h3;exact ⟨id,o,h5,h4⟩
   .rw [hv] at h2;cases h2;omega
  .rw [Vj (by omega)] at h2;exact ⟨k,ok,ho,h2⟩
abbrev BH (cx:Cx) (a:Act) (w:World) (st:aj) (L:Nat -> Value) (K:aj -> Prop):Act -> World -> Prop:=fun a' w'=>∃ st' L',K st' /\ aH cx a' w' st' L' /\ Fr cx w st.tab L st.next w' st'.tab L' st'.next /\ a'.defers=a.defers
theorem bk (a:Act) (d:Option Nat) (v:Value):(a.put d v).defers=a.defers:=by cases d<;>rfl
theorem pe {o:Oper} {K:aj -> Prop} {Q:Exit -> Act -> World -> Prop} (h:aH cx a w st L) (hp:cj P st.tab (bm st) o.op (aK st o.dst K)):o.wp P a w (BH cx a w st L K) Q:=by
 obtain ⟨v,av,h1,h2,h3,h4,_⟩:=kK h.lay (fun id o hid=>(h.young id o hid).2) (am h) hp;exact aW (h4 w (Below.refl _ _)) ⟨_,L,h1,bp h h2 h3 o.dst,(by rw [bN,bK];exact Fr.refl),bk _ _ _⟩
def Im (o:Oper):Bool:=match o.op with
 | .defer _=>false
 | _=>true
theorem sg {id:Nat} {o ob:aD} {v':Value} (h:aH cx a w st L) (hid:st.tab.get id=some o) (hv:aO v'=aO (L id)):Fr cx w st.tab L st.next w (bT st.tab st.next (some id) ob) (br L st.next v') (st.next+1):=by
 have hget:∀ k ok,(bT st.tab st.next (some id) ob).get k=some ok -> k=st.next \/ (k<st.next /\ st.tab.get k=some ok):=fun k ok hk=>by
  rw [bL] at hk;split at hk
  .exact .inl (by assumption)
  .split at hk
   .cases hk
   .exact .inr ⟨(h.young k ok hk).1,hk⟩
 refine ⟨⟨fun _ _=>rfl,fun b hb=>⟨hb.1,hb.2.1,fun k ok hk=>?_⟩,fun k p hlt hk=>?_⟩,Vh _,fun _ _ _=>rfl,fun k ok g h1 h2 _=>?_,VS _⟩
 .unfold br;rcases hget k ok hk with rfl|⟨hlt,ho⟩
  .rw [Vo rfl,hv];exact hb.2.2 id o hid
  .rw [Vj (by omega)];exact hb.2.2 k ok ho
 .unfold Kx br at *;rw [Vj (by omega)] at hk
  cases ho:(bT st.tab st.next (some id) ob).get k with
  | none=>simp [ho] at hk
  | some ok=>
   rcases hget k ok ho with rfl|⟨_,h1⟩
   .omega
   .rw [h1];rw [ho] at hk;exact hk
 .unfold br at h2;rcases hget k ok h1 with rfl|⟨hlt',ho⟩
  .rw [Vo rfl,hv] at h2;exact ⟨id,o,hid,h2⟩
  .rw [Vj (by omega)] at h2;exact ⟨k,ok,ho,h2⟩
theorem CV {t:TypeId} {x:Operand} {lo hi mx:Option Operand} {K:aj -> Prop} {Q:Exit -> Act -> World -> Prop} {ty:TypeId} {dst:Option Nat} {pos:String} {aft:Array Edge} {gd:Option (Nat × Bool)} (h:aH cx a w st L)
  (hp:jI P t st (bm st x) (lo.map (bm st)) (hi.map (bm st)) (mx.map (bm st)) dst K):Oper.wp (P:=P) ⟨dst,.slice t x lo hi mx,ty,pos,aft,gd⟩ a w (BH cx a w st L K) Q:=by
 unfold jI at hp;split at hp
 .rename_i id hx;have hv:=(am h x).1;rw [hx] at hv;split at hp
  .rename_i e sz rows hid;unfold oa at hp;split at hp
   .rename_i l h' hl hh;obtain ⟨⟨h1,h2⟩,⟨rfl,h4,h5,h6⟩,h7⟩:=hp;obtain ⟨hu,hsz⟩:=jv (P:=P) (t:=t) (by omega);have hvL:=hv.osl_inv _ _ (cU hid);obtain ⟨hrow,xs,hown,hone,hx'⟩:=h.lay.objs id _ hid;have hs:=dF (P:=P) (t:=(bA P t).1) (by omega) w;rw [hsz,h1] at hs
    have key:∀ A cap,L id=.slice A rows.length cap -> rows.length<=cap -> ∃ m,h'.toNat<=m /\ m<=cap /\ (Instr.sliceBounds true rows.length cap (lo.map a.eval) (hi.map a.eval) (mx.map a.eval)).run P w=.ok (0,h'.toNat,m) w:=by
     intro A cap hL hc;have hlo:=ri (d:=0) (n:=0) (fun x=>(am h x).1) hl (by omega) rfl;have hhi:=ri (d:=rows.length) (n:=h'.toNat) (fun x=>(am h x).1) hh (by omega) rfl
     cases mx with
     | none=>exact ⟨cap,by omega,Vh _,gX hlo hhi (.inl ⟨rfl,rfl⟩) (by omega) (by omega)⟩
     | some q=>
      have hq:=(am h q).1;simp only [VT] at h6 ⊢;unfold GD at h6;split at h6
      .rename_i hq';cases hq'
      .rename_i k m hq'
       injection hq' with hq'
       rw [hq'] at hq;obtain ⟨rfl,hb⟩:=h6;refine ⟨m.toNat,Vh _,by omega,gX hlo hhi (.inr ⟨rfl,⟨k,by rw [hq.c_inv,Int.toNat_of_nonneg h4]⟩,fun hn=>?_⟩) (by omega) (by omega)⟩
       cases hi with
       | none=>simp at hb
       | some _=>cases hn
      .exact h6.elim
    rcases hown.2 with ⟨hL,h0⟩|⟨g,cap,cur,hL,hb,hh',hc,hm,hcs,htake⟩
    .obtain ⟨m,hm1,hm2,hr⟩:=key none 0 (by rw [hL,h0]) (by omega);have hm0:m=0:=(by omega);have hn0:h'.toNat=0:=(by omega);refine aW (v:=.slice none 0 0) ?_ ⟨_,_,h7,lg (n:=h'.toNat) h hid (by omega) (.inl ⟨hL,rfl⟩) dst,(by rw [bN,bK];exact sg h hid (by rw [hL])),bk _ _ _⟩;rw [h0] at hr;simp [execOp,Sem.run_bind,hvL,hL,Instr.sliceAt,Instr.slice,run_underlying hu,hr,hs,hm0,hn0]
    .obtain ⟨m,hm1,hm2,hr⟩:=key _ cap hL hc;refine aW (v:=.slice (some ⟨g,0,none⟩) h'.toNat m) ?_ ⟨_,_,h7,lg (n:=h'.toNat) h hid (by omega) (.inr ⟨g,cap,m,hL,rfl,hm1,hm2⟩) dst,(by rw [bN,bK];exact sg h hid (by rw [hL];rfl)),bk _ _ _⟩;simp [execOp,Sem.run_bind,hvL,hL,Instr.sliceAt,Instr.slice,run_underlying hu,hr,hs,Addr.add_lit]
   .exact hp.elim
  .exact hp.elim
 .exact pe (o:=⟨dst,.slice t x lo hi mx,ty,pos,aft,gd⟩) h (by exact hp)
theorem Dk {o:Oper} {K:aj -> Prop} {Q:Exit -> Act -> World -> Prop} (h:aH cx a w st L) (hp:jm P o K st) (hf:Im o=true):o.wp P a w (BH cx a w st L K) Q:=by
 obtain ⟨dst,op,ty,pos,aft,gd⟩:=o;unfold jm at hp;simp only at hp;split at hp
 .rename_i t x;obtain ⟨h1,h2⟩:=hp;have he:=am h x;obtain ⟨h3,h4⟩:=pJ (P:=P) (t:=t) h he.1 he.2 h1 dst;exact aW (by simp [execOp,Sem.run_bind,h3]) ⟨_,_,h2,h4,(by rw [bN,bK];exact pK h ((Below.refl _ _).alloc (Vh _) _) (fun g hg=>by simp [aO] at hg;omega)),bk _ _ _⟩
 .rename_i t;split at hp
  .rename_i z hz;obtain ⟨h1,h2⟩:=hp;obtain ⟨h3,h4⟩:=pJ (P:=P) (t:=t) (av:=.c z) h (.tree (.c z)) trivial h1 dst;exact aW (by simp [execOp,Sem.run_bind,pY hz,h3]) ⟨_,_,h2,h4,(by rw [bN,bK];exact pK h ((Below.refl _ _).alloc (Vh _) _) (fun g hg=>by simp [aO] at hg;omega)),bk _ _ _⟩
  .exact hp.elim
 .rename_i t p x;unfold qq at hp;split at hp
  .rename_i id i j hpe;split at hp
   .rename_i ty cells hid;obtain ⟨rfl,h0,h1,h2,h3,h4⟩:=hp;have hpv:=(am h p).1;rw [hpe] at hpv;have hx:=am h x;obtain ⟨w',h5,h6,h7,h8⟩:=lw h hpv hid hx.1 hx.2 h0 h1 h2 h3 dst;exact eY (by simp [execOp,Sem.run_bind,h5]) ⟨_,_,h4,h6,(by rw [bN,bK];exact tq hid (by simp only [aD.sz,Vk,Vr,Wa];omega) h7 h8),bk _ _ _⟩
   .rename_i e sz rows hid;obtain ⟨hi,h0,h1,h2,h3,h3',h4⟩:=hp;have hpv:=(am h p).1;rw [hpe] at hpv;have hx:=am h x;obtain ⟨w',h5,h6,h7,h8⟩:=k5 h hpv hid hx.1 hx.2 hi h0 h1 h2 h3 h3' dst;exact eY (by simp [execOp,Sem.run_bind,h5]) ⟨_,_,h4,h6,(by rw [bN,bK];exact tq hid rfl h7 h8),bk _ _ _⟩
   .rename_i e sz rows hid;obtain ⟨hi,h0,h1,h2,h3,h4⟩:=hp;have hpv:=(am h p).1;rw [hpe] at hpv;have hx:=am h x;obtain ⟨w',h5,h6,h7,h8⟩:=j4 h hpv hid hx.1 hx.2 hi h0 h1 h2 h3 dst;exact eY (by simp [execOp,Sem.run_bind,h5]) ⟨_,_,h4,h6,(by rw [bN,bK];exact tq hid rfl h7 h8),bk _ _ _⟩
   .exact hp.elim
  .exact hp.elim
 .rename_i t n parts;unfold ez at hp;have hfr:=rV (cx:=cx) (w:=w) (L:=L) (st:=st) (gM (parts.toList.flatMap fun (p:Nat × Operand)=>aq (bm st p.2)))
  replace h:=f5 (gM (parts.toList.flatMap fun (p:Nat × Operand)=>aq (bm st p.2))) h
  unfold gl at hp;split at hp
  .rename_i e sz by_ ht;split at hp
   .obtain ⟨⟨h1,rfl,h3,h5⟩,h6⟩:=hp;obtain ⟨v',w',L',h7,h8,hb,rfl,hv⟩:=jT h ht h1 h3 h5 dst;refine aW ?_ ⟨_,_,h6,h8,(by rw [bN,bK];exact hfr.trans (pK h hb fun g hg=>by rw [hv] at hg;cases hg;exact Vh _)),bk _ _ _⟩;simp only [W9] at h7;simp [execOp,Sem.run_bind];simp at h7;simp [h7]
   .obtain ⟨⟨h1,rfl,h3,h5⟩,h6⟩:=hp;obtain ⟨v',w',L',h7,h8,hb,rfl,hv⟩:=pD h ht h1 h3 h5 dst;refine aW ?_ ⟨_,_,h6,h8,(by rw [bN,bK];exact hfr.trans (pK h hb fun g hg=>by rw [hv] at hg;cases hg;exact Vh _)),bk _ _ _⟩;simp only [W9] at h7;simp [execOp,Sem.run_bind];simp at h7;simp [h7]
  .exact hp.elim
 .rename_i t l c;unfold qP at hp;split at hp
  .rename_i e sz by_ k1 n k2 m ht hl hc;split at hp
   .rename_i z hz;obtain ⟨⟨rfl,h1,h2,h3,h4⟩,h5⟩:=hp;have hl':=(am h l).1;have hc':=(am h c).1;rw [hl] at hl';rw [hc] at hc';obtain ⟨v',w',L',h6,h7,hb,rfl,hv⟩:=wI (k1:=k1) (k2:=k2) h ht hz h1 h2 h3 h4 dst;exact aW (by simp [execOp,Sem.run_bind,hl'.c_inv,hc'.c_inv,h6]) ⟨_,_,h5,h7,(by rw [bN,bK];exact pK h hb fun g hg=>by rw [hv] at hg;cases hg;exact Vh _),bk _ _ _⟩
   .exact hp.elim
  .exact hp.elim
 .rename_i t parts;obtain ⟨v,cs,h1,h2,h3,h4⟩:=lN h hp;refine aW ?_ ⟨_,_,h4,bp h h1 h2 dst,(by rw [bN,bK];exact Fr.refl),bk _ _ _⟩;simp [execOp,Sem.run_bind,h3 w]
 .rename_i t x lo hi mx;exact CV h hp
 .rename_i t r;obtain ⟨hr,hp⟩:=hp
  cases r with
  | some r=>cases hr
  | none=>
   obtain ⟨h1,h2⟩:=tN (P:=P) (t:=t) h dst;exact aW (by simp [execOp,Sem.run_bind,h1]) ⟨_,_,hp,h2,(by rw [bN,bK];exact pK h ((Below.refl _ _).alloc (Vh _) _) (fun g hg=>by simp [aO] at hg;omega)),bk _ _ _⟩
 .rename_i t m k ok;obtain ⟨r,av,h1,h2,h3,h4⟩:=pE (nx:=st.next) h.lay (am h m).1 (am h k).1 hp;exact aW (by simp [execOp,Sem.run_bind,h4]) ⟨_,_,h1,bp h h2 h3 dst,(by rw [bN,bK];exact Fr.refl),bk _ _ _⟩
 .rename_i t m k v;obtain ⟨w',st',h1,h2,h3,h4,id,ents,ents',_,h5,rfl,h6⟩:=qv h (am h m).1 (am h k).1 (am h v).1 dst hp;exact eY (by simp [execOp,Sem.run_bind,h1]) ⟨_,_,h2,h3,(by rw [bN,bK];exact tq h5 rfl h4 h6),bk _ _ _⟩
 .rename_i c;obtain ⟨callee,args,argTypes⟩:=c;simp only at hp;split at hp
  .split at hp
   .rename_i x y t t' h1 h2;obtain rfl:args = #[x,y]:=by cases args;simp_all
    obtain rfl:argTypes = #[t,t']:=by cases argTypes;simp_all
    obtain ⟨rfl,hp⟩:=hp;unfold jQ at hp;split at hp
    .rename_i hnn;obtain ⟨e1,e2⟩:=nW hnn;have hx1:=(am h x).1;have hy1:=(am h y).1;rw [e1] at hx1;rw [e2] at hy1;have hx2:=hx1.c_inv;have hy2:=hy1.c_inv;have hr:=jy (ty:=ty) (w:=w) hp.1;exact aW (by simp [execOp,Sem.run_bind,resolve,invoke,builtin,hx2,hy2,hr]) ⟨_,_,hp.2,bp h (.tree (.c _)) trivial dst,(by rw [bN,bK];exact Fr.refl),bk _ _ _⟩
    unfold kk at hp;split at hp
    .rename_i e sz by_ ht;split at hp
     .rename_i oid rows rows2 hx hy;obtain ⟨⟨h3,h4⟩,h5⟩:=hp;obtain ⟨v',w',L',h6,h7,hg,rfl,hv,hown⟩:=qh (ty:=ty) h (am h x).1 (am h y).1 ht hx hy (by simpa [maxLen] using h3) h4 dst
      have hoid:∀ id,oid=some id -> ∃ o,st.tab.get id=some o:=fun id hid=>by
       subst hid;unfold xl at hx;split at hx
       .rename_i id' hid';split at hx
        .rename_i e' sz' rows' hget;split at hx
         .cases hx;exact ⟨_,hget⟩
         .cases hx
        .cases hx
       .cases hx
       .cases hx
      exact aW (by simp [execOp,Sem.run_bind,resolve,invoke,builtin,h6]) ⟨_,_,h5,h7,(by rw [bN,bK];exact JY h hg hv hown hoid),bk _ _ _⟩
     .split at hp
      .rename_i oid rows rows2 hx hy;obtain ⟨⟨h3,h4⟩,h5⟩:=hp;obtain ⟨v',w',L',h6,h7,hg,rfl,hv,hown⟩:=nQ (ty:=ty) h (am h x).1 (am h y).1 ht hx hy (by simpa [maxLen] using h3) h4 dst
       have hoid:∀ id,oid=some id -> ∃ o,st.tab.get id=some o:=fun id hid=>by
        subst hid;unfold lO at hx;split at hx
        .rename_i id' hid';split at hx
         .rename_i e' sz' rows' hget;split at hx
          .cases hx;exact ⟨_,hget⟩
          .cases hx
         .cases hx
        .cases hx
        .cases hx
       exact aW (by simp [execOp,Sem.run_bind,resolve,invoke,builtin,h6]) ⟨_,_,h5,h7,(by rw [bN,bK];exact JY h hg hv hown hoid),bk _ _ _⟩
      .exact hp.elim
    .exact hp.elim
   .exact hp.elim
  .unfold yg at hp;split at hp
   .rename_i x t h1 h2;obtain rfl:args = #[x]:=by cases args;simp_all
    obtain rfl:argTypes = #[t]:=by cases argTypes;simp_all
    obtain ⟨w',st',h3,h4,h5,h6,id,ents,h7,rfl,h8⟩:=AG (ty:=ty) h (am h x).1 dst hp;exact aW (by simp [execOp,Sem.run_bind,resolve,invoke,builtin,h3]) ⟨_,_,h4,h5,(by rw [bN,bK];exact tq h7 rfl h6 h8),bk _ _ _⟩
   .exact hp.elim
  .rcases hp with hp | hp
   .unfold C3 at hp;split at hp
    .rename_i x t h1 h2;obtain rfl:args = #[x]:=by cases args;simp_all
     obtain rfl:argTypes = #[t]:=by cases argTypes;simp_all
     obtain ⟨r,av,h3,h4,h5,h6⟩:=ED (ty:=ty) (nx:=st.next) h.lay (am h x).1 hp;exact aW (by simp [execOp,Sem.run_bind,resolve,invoke,builtin,h6]) ⟨_,_,h3,bp h h4 h5 dst,(by rw [bN,bK];exact Fr.refl),bk _ _ _⟩
    .exact hp.elim
   .exact pe h hp
  .rename_i f;obtain ⟨g,zs,avs,hrun0,hsz,hlt,hp⟩:=zT h hp;by_cases hmeth:yT none P st g avs (vW dst K)
   .obtain ⟨hent,ids0,_,hc⟩:=yn h hsz (fun j v av h1 h2=>(hlt j v av h1 h2).1) hmeth dst;unfold Oper.wp;rw [hrun0 hent _ argTypes rfl];show Calls P g zs w _;refine hc.mono ?_;rintro e w' ⟨v,av,st',L',rfl,h1,h2,h3,_⟩;exact ⟨_,_,h1,h2,(by rw [bN,bK];exact h3),bk _ _ _⟩
   replace hp:qe P st g avs (vW dst K) \/ (none=(none:Option (Nat × List Nat)) /\ (D8 P st g avs (vW dst K) \/ Dv P st g avs (vW dst K))):=by
    rcases hp with hp|hp|hp
    .exact .inl hp
    .exact .inr hp
    .exact absurd hp hmeth
   have hent:fL P g:=by
    rcases hp with (⟨R,hd,_⟩|⟨hd,_⟩)|⟨_,(⟨_,_,_,_,_,_,_,_,hd,_⟩|⟨_,_,_,_,_,_,_,_,_,hd,_⟩|⟨hd,_⟩)|⟨_,(⟨R,hd,_⟩|⟨hd,_⟩)⟩⟩
    .exact hd.1
    .exact hd
    .exact hd.1
    .exact hd.1
    .exact hd
    .exact hd.1
    .exact hd
   unfold Oper.wp;rw [hrun0 hent _ argTypes rfl];show Calls P g zs w _;have hargs:zs.size=avs.length /\ ∀ (j:Nat) (v:Value) (av:AV),zs[j]? = some v -> avs[j]? = some av -> bQ cx w st.tab L v av:=⟨hsz,fun j v av h1 h2=>(hlt j v av h1 h2).1⟩;rcases hp with hp|⟨_,hp|⟨ids,hp⟩⟩
   .refine (oP h hargs.1 hargs.2 hp dst).mono ?_;rintro e w' ⟨v,av,st',L',rfl,h1,h2,hb,hold,hnew,hnx⟩;exact ⟨_,_,h1,h2,(by rw [bN,bK];exact oJ (fun id o hid=>(h.young id o hid).1) hb hold hnew hnx),bk _ _ _⟩
   rotate_left
   .obtain ⟨h3,h4⟩:=ms ids h hlt;have hz:=f5 ids h;refine (oP hz (by rw [h3];exact hargs.1) (fun j v av h5 h6=>(h4 j v av h5 h6).1) hp dst).mono ?_;rintro e w' ⟨v,av,st',L',rfl,h1,h2,hb,hold,hnew,hnx⟩;exact ⟨_,_,h1,h2,(by rw [bN,bK];exact (rV ids).trans (oJ (fun id o hid=>(hz.young id o hid).1) hb hold hnew hnx)),bk _ _ _⟩
   .refine (DR h hargs.1 hlt hp dst).mono ?_;rintro e w' ⟨v,av,st',L',rfl,h1,h2,h3⟩;exact ⟨_,_,h1,h2,(by rw [bN,bK];exact h3),bk _ _ _⟩
  .exact pe h hp
 .exact pe h hp
end
end
section
section
variable {P:Program} {cx:Cx} {a:Act} {w w':World} {st:aj} {L L':Nat -> Value} {l0 n:Nat}
theorem CF {o:Oper} {next:Act -> World -> Prop} {Q:Exit -> Act -> World -> Prop} (hd:∀ c,o.op ≠ .defer c) (h:o.wp P a w next Q):o.wpIn (Fence.wide.inRound l0) n P a w next Q:=by
 refine ⟨fun _ _=>trivial,?_⟩;rw [Oper.semAt_eq _ _ _ hd];unfold Oper.wp at h;generalize (execOp a.eval o).run P w=r at h
 cases r with
 | ok x w1=>
  cases x with
  | value v=>exact h
  | skip=>exact h
  | defer d=>exact h
  | enter f args=>exact ⟨fun h=>(by cases h),CallsIn.inRound l0 (callsIn_wide.2 h)⟩
  | row row args=>
   refine ⟨fun h=>(by cases h),fun c cs _=>?_⟩;obtain ⟨v,w',h1,h2⟩:=h c cs;exact ⟨v,w',h1,by rw [fenced_inRound];exact stepsIn_wide.2 h2⟩
  | _=>exact h.elim
 | halt x w1=>
  cases x<;>first|exact h|exact h.elim
theorem Hs {o:Oper} (h:Im o=true):∀ c,o.op ≠ .defer c:=fun c e=>by
 unfold Im at h;rw [e] at h;cases h
theorem xh {ops:Array Oper} {K:aj -> Prop} {Q:Exit -> Act -> World -> Prop}:∀ (l:List Oper) (a:Act) (w:World) (st:aj) (L:Nat -> Value),(∀ o ∈ l,Im o=true) ->
  (∀ a' w' st' L',K st' -> aH cx a' w' st' L' -> Fr cx w st.tab L st.next w' st'.tab L' st'.next -> Q .normal a' w') -> aH cx a w st L -> lH P ops K l st -> wpListIn (Fence.wide.inRound l0) n P ops Q l a w
 | [],a,w,st,L,_,hQ,h,hp=>hQ a w st L hp h Fr.refl
 | o :: rest,a,w,st,L,hf,hQ,h,hp=>by
  unfold lH at hp;have hfo:=hf o (Wc ..);refine wpListIn_step fun K' hK'=>?_;rcases cC h hp o rfl with ⟨hw,st',h1,h2,e1,e2⟩|⟨hw,st',h1,h2,e1,e2⟩
  .rw [Vo hw];refine CF (Hs hfo) (Oper.wp_mono (fun a' w' ⟨st'',L',h3,h4,h5,_⟩=>hK' a' w' (xh rest a' w' st'' L' (fun o ho=>hf o (V0 _ ho)) (fun a2 w2 st2 L2 h6 h7 h8=>hQ a2 w2 st2 L2 h6 h7 ?_) h4 h3)) (Dk h2 h1 hfo));rw [e1,e2] at h5;exact h5.trans h8
  .rw [Vj (by simp [hw])];refine ⟨fun _ _=>trivial,hK' _ _ (xh rest _ w _ L (fun o ho=>hf o (V0 _ ho)) (fun a2 w2 st2 L2 h6 h7 h8=>hQ a2 w2 st2 L2 h6 h7 ?_) (bZ h2 o.dst) h1)⟩;rw [bN,bK,e1,e2] at h8;exact h8
def jP:Code -> Bool
 | .skip=>true
 | .region _ ops draw=>!draw && ops.toList.all Im
 | .seq x y=>jP x && jP y
 | .cond _ x y=>jP x && jP y
 | .block _ x=>jP x
 | .exit _=>true
 | .ret=>true
 | _=>false
theorem zE:∀ (c:Code),jP c=true -> ∀ (Q:Exit -> aj -> Prop) (a:Act) (w:World) (st:aj) (L:Nat -> Value),aH cx a w st L -> bD P c Q st ->
  c.wpIn (Fence.wide.inRound l0) n P (fun e a' w'=>∃ st' L',Q e st' /\ aH cx a' w' st' L' /\ Fr cx w st.tab L st.next w' st'.tab L' st'.next) a w:=by
 intro c
 induction c with
 | skip=>exact fun _ Q a w st L h hp=>wpIn_skip ⟨st,L,hp,h,Fr.refl⟩
 | region id ops draw=>
  intro hf Q a w st L h hp;unfold bD F2 at hp
  cases draw with
  | false=>
   simp only [jP,Xa,VX,W6] at hf;exact wpIn_region_list (xh _ a w st L hf (fun a' w' st' L' h1 h2 h3=>⟨st',L',h1,h2,h3⟩) h (by simpa using hp))
  | true=>cases hf
 | seq x y ihx ihy=>
  intro hf Q a w st L h hp;simp only [jP,VB] at hf;unfold bD at hp;refine wpIn_seq (wpIn_mono (ihx hf.1 _ a w st L h hp) (fun e a' w' ⟨st',L',h1,h2,h3⟩=>?_))
  cases e with
  | normal=>exact wpIn_mono (ihy hf.2 Q a' w' st' L' h2 h1) fun e a2 w2 ⟨st2,L2,h4,h5,h6⟩=>⟨st2,L2,h4,h5,h3.trans h6⟩
  | _=>exact ⟨st',L',h1,h2,h3⟩
 | cond c x y ihx ihy=>
  intro hf Q a w st L h hp;simp only [jP,VB] at hf;unfold bD ow at hp;split at hp
  .rename_i b hb;have hv:=(am h c).1;rw [hb] at hv;have hv:=hv.c_inv;cases b
   .exact wpIn_cond_false hv (ihy hf.2 Q a w st L h hp)
   .exact wpIn_cond_true hv (ihx hf.1 Q a w st L h hp)
  .exact hp.elim
 | block id x ih=>
  intro hf Q a w st L h hp;simp only [jP] at hf;unfold bD at hp;refine wpIn_block (wpIn_mono (ih hf _ a w st L h hp) (fun e a' w' ⟨st',L',h1,h2,h3⟩=>?_))
  cases e with
  | exit id'=>
   simp only [ii,Exit.inBlock] at h1 ⊢;split
   .rename_i e;rw [Vo e] at h1;exact ⟨st',L',h1,h2,h3⟩
   .rename_i e;rw [Vj e] at h1;exact ⟨st',L',h1,h2,h3⟩
  | _=>exact ⟨st',L',h1,h2,h3⟩
 | exit id=>exact fun _ Q a w st L h hp=>wpIn_exit ⟨st,L,hp,h,Fr.refl⟩
 | ret=>exact fun _ Q a w st L h hp=>wpIn_ret ⟨st,L,hp,h,Fr.refl⟩
 | _=>exact fun hf=>(by cases hf)
def pW (T:Nat -> Prop) (w w':World) (b:Nat):Prop:=T b \/ (w.heap.size<=b /\ b<w'.heap.size)
structure yw (T:Nat -> Prop) (w w':World):Prop where
 os:w'.os=w.os
 tape:w'.tape=w.tape
 output:w'.output=w.output
 size:w.heap.size<=w'.heap.size
 block:∀ b,T b -> w'.heap[b]? = w.heap[b]?
def PS (P:Program) (gf:FuncId) (caps:List AV) (xs:List (List AV)):Prop:=
 fL P gf /\ ∀ (l:Nat) (T0:Nat -> Prop) (lb:Array Value) (W0:World) (J Jx:List (List AV) -> (Nat -> Prop) -> (Nat -> Prop) -> World -> Prop),lb.size=caps.length -> Gu W0 T0 ->
  (∀ (j:Nat) (v:Value) (av:AV),lb[j]? = some v -> caps[j]? = some av -> RT W0 T0 v av) ->
  (∀ pre T M W,J pre T M W -> ∀ b,T b -> b<W.heap.size) ->
  (∀ pre T M M' W W',J pre T M W -> ci M W.heap.size W W' -> (∀ b,M' b -> M b \/ (W.heap.size<=b /\ b<W'.heap.size)) -> J pre (pW T W W') M' W') ->
  (∀ pre T M M' W W',Jx pre T M W -> ci M W.heap.size W W' -> (∀ b,M' b -> M b \/ (W.heap.size<=b /\ b<W'.heap.size)) -> Jx pre (pW T W W') M' W') ->
  (∀ pre x T M W (vs:Array Value),J pre T M W -> (pre ++ [x]) <+: xs -> vs.size=x.length -> (∀ (j:Nat) (v:Value) (av:AV),vs[j]? = some v -> x[j]? = some av -> RT W (fun b=>T b /\ ¬ M b) v av) ->
   YieldAt Fence.wide 0 P l vs W fun e W'=>(e=.returned (.bool true) /\ J (pre ++ [x]) T M W' /\ yw T W W') \/ (e=.returned (.bool false) /\ Jx (pre ++ [x]) T M W' /\ yw T W W')) ->
  J [] T0 (fun _=>False) W0 ->
  CallsIn Fence.wide 0 P gf (#[.func (.yield l) #[] #[]] ++ lb) W0 fun e W'=>(∃ v,e=.returned v) /\ ((∃ T M,J xs T M W') \/ ∃ pre T M,pre <+: xs /\ Jx pre T M W')
theorem mQ {c c':Cx} (h:aH c a w st L) (hw:c'.w0=c.w0) (hblk:∀ b,Sx c w st.tab L b -> w'.heap[b]? = w.heap[b]?) (hown:∀ id o g,st.tab.get id=some o -> aO (L id)=some g -> w'.heap[g]? = w.heap[g]?) (hS:∀ b,Sx c w st.tab L b -> Sx c' w' st.tab L b)
  (hb:ci c'.X c'.w0.heap.size c'.w0 w') (hex:∀ b,c'.X b -> b<w'.heap.size /\ ∀ id o,st.tab.get id=some o -> aO (L id) ≠ some b):aH c' a w' st L:=by
 have hrv:∀ {x av nx},bQ c w st.tab L x av -> av.lt nx -> bQ c' w' st.tab L x av:=fun hr hl=>hr.mono hl (fun p hp=>World.cell?_of_block (hblk _ hp)) hS (fun _ _ _ h=>h);refine ⟨⟨hb,fun id o hid=>?_,h.lay.sep,hex⟩,h.size,by rw [hw];exact h.defers.mono hblk hS,h.young,fun t=>⟨hrv (h.env t).1 (h.env t).2,(h.env t).2⟩⟩;have ho:=h.lay.objs id o hid;have hy:=(h.young id o hid).2
 cases o with
 | box t cells=>
  obtain ⟨g,cs,h1,h2,h3,h4,h5⟩:=ho;exact ⟨g,cs,h1,by rw [hw];exact h2,(hown id _ g hid (by rw [h1];rfl)).trans h3,h4,fun j x av h6 h7=>⟨hrv (h5 j x av h6 h7).1 (ak.1 hy _ (Os h7)),(h5 j x av h6 h7).2⟩⟩
 | row e sz rows=>
  obtain ⟨h1,xs,hown',h2,h3⟩:=ho;refine ⟨h1,xs,⟨hown'.1,?_⟩,h2,fun i j row av ha hb=>?_⟩
  .rcases hown'.2 with hn | ⟨g,cap,cur,h4,hb,hh,rest⟩
   .exact .inl hn
   .exact .inr ⟨g,cap,cur,h4,by rw [hw];exact hb,(hown id _ g hid (by rw [h4];rfl)).trans hh,rest⟩
  .obtain ⟨x,hx,hr⟩:=h3 i j row av ha hb;exact ⟨x,hx,hr.mono (fun p hp=>World.cell?_of_block (hblk _ hp)) hS⟩
 | nest e sz rows=>
  obtain ⟨h1,xs,hown',h2,h3⟩:=ho;refine ⟨h1,xs,⟨hown'.1,?_⟩,h2,fun i j row av ha hb=>?_⟩
  .rcases hown'.2 with hn | ⟨g,cap,cur,h4,hb,hh,rest⟩
   .exact .inl hn
   .exact .inr ⟨g,cap,cur,h4,by rw [hw];exact hb,(hown id _ g hid (by rw [h4];rfl)).trans hh,rest⟩
  .obtain ⟨x,hx,hr⟩:=h3 i j row av ha hb;exact ⟨x,hx,hrv hr (ak.1 (hy row (Os ha)) _ (Os hb))⟩
 | map ents=>
  obtain ⟨b,es,ck,h1,h2,h3,h4⟩:=ho;exact ⟨b,es,ck,h1,by rw [hw];exact h2,(hown id _ b hid (by rw [h1];rfl)).trans h3,h4⟩
 | ghost vs env=>exact ⟨ho.1,fun t ht=>hrv (ho.2 t ht) (fY hy t)⟩
def Cx.ex (c:Cx) (M:Nat -> Prop) (hM:∀ b,M b -> c.w0.heap.size<=b):Cx:=⟨c.F,c.w0,fun b=>c.X b \/ M b,c.amb,fun b h=>h.elim (c.exD b) fun h2=>VC c.amb.le (hM b h2),c.inF⟩
def Nz (cx:Cx) (a0:Act) (l:Nat) (r:Loop) (I:aj -> Prop) (T M:Nat -> Prop) (W:World):Prop:=
 ∃ (hqq:∀ b,M b -> cx.w0.heap.size<=b) (st:aj) (L:Nat -> Value),I st /\ aH (cx.ex M hqq) a0 W st L /\ W.heap[l]? = some (.loop r) /\ Sx (cx.ex M hqq) W st.tab L l /\ ¬ T l /\ (∀ b,M b -> T b /\ cx.w0.heap.size<=b) /\ ∀ b,T b -> Sx cx W st.tab L b
theorem Lp (h:aH cx a w st L) (hb:w.heap.size<=w'.heap.size) {b:Nat} (hs:Sx cx w st.tab L b):Sx cx w' st.tab L b:=⟨Vn hs.1 hb,hs.2.1,hs.2.2⟩
theorem Du (h:aH cx a w st L) {b:Nat} (h1:w.heap.size<=b) (h2:b<w'.heap.size):Sx cx w' st.tab L b:=
 ⟨h2,⟨.inr (VC h.lay.below.size h1),fun hX=>absurd (h.lay.ex b hX).1 (Nat.not_lt.2 h1)⟩,fun id o hid hg=>absurd ((h.lay.objs id o hid).ge hg).2 (by omega)⟩
theorem Nz.step {a0:Act} {l:Nat} {r:Loop} {I:aj -> Prop} {T M M':Nat -> Prop} (h:Nz cx a0 l r I T M w) (hb:ci M w.heap.size w w') (hM:∀ b,M' b -> M b \/ (w.heap.size<=b /\ b<w'.heap.size)):Nz cx a0 l r I (pW T w w') M' w':=by
 obtain ⟨hqq,st,L,h1,h2,h3,h4,h5,h6,h7⟩:=h;have hsz:cx.w0.heap.size<=w.heap.size:=h2.lay.below.size;have hq':∀ b,M' b -> cx.w0.heap.size<=b:=fun b hb2=>(hM b hb2).elim (hqq b) fun h8=>VC hsz h8.1
 have hS:∀ b,Sx (cx.ex M hqq) w st.tab L b -> Sx (cx.ex M' hq') w' st.tab L b:=fun b hs=>⟨Vn hs.1 hb.size,⟨hs.2.1.1,fun hx=>by
  rcases hx with hx|hx
  .exact hs.2.1.2 (.inl hx)
  .rcases hM b hx with hm | hm
   .exact hs.2.1.2 (.inr hm)
   .have:=hs.1;omega⟩,hs.2.2⟩
 have hblk:∀ b,Sx (cx.ex M hqq) w st.tab L b -> w'.heap[b]? = w.heap[b]?:=fun b hs=>hb.block b hs.1 fun hm=>hs.2.1.2 (.inr hm)
 have hex:∀ b,(cx.ex M' hq').X b -> b<w'.heap.size /\ ∀ id o,st.tab.get id=some o -> aO (L id) ≠ some b:=fun b hx=>by
  have old:(cx.ex M hqq).X b -> b<w'.heap.size /\ ∀ id o,st.tab.get id=some o -> aO (L id) ≠ some b:=fun hx=>⟨Vn (h2.lay.ex b hx).1 hb.size,(h2.lay.ex b hx).2⟩;rcases hx with hx|hx
  .exact old (.inl hx)
  .rcases hM b hx with hm | hm
   .exact old (.inr hm)
   .exact ⟨hm.2,fun id o hid hg=>absurd ((h2.lay.objs id o hid).ge hg).2 (by omega)⟩
 have hbel:ci (cx.ex M' hq').X (cx.ex M' hq').w0.heap.size (cx.ex M' hq').w0 w':=by
  have h8:ci (cx.ex M hqq).X cx.w0.heap.size cx.w0 w:=h2.lay.below;refine ⟨hb.os.trans h8.os,hb.tape.trans h8.tape,hb.output.trans h8.output,VC h8.size hb.size,fun k (hk:k<cx.w0.heap.size) hx=>?_⟩
  have hm:¬ M k:=fun hm=>by
   have:=(h6 k hm).2;omega
  refine (hb.block k (by omega) hm).trans (h8.block k hk fun hx'=>?_);rcases hx' with hx'|hx'
  .exact hx (.inl hx')
  .exact hm hx'
 refine ⟨hq',st,L,h1,mQ h2 rfl hblk (fun id o g hid hg=>hb.block g ((h2.lay.objs id o hid).ge hg).2 fun hm=>(h2.lay.ex g (.inr hm)).2 id o hid hg) hS hbel hex,(hblk l h4).trans h3,hS l h4,fun hg=>?_,fun b hm=>?_,fun b hg=>?_⟩
 .rcases hg with hg | hg
  .exact h5 hg
  .have:=h4.1;omega
 .rcases hM b hm with hm | hm
  .exact ⟨.inl (h6 b hm).1,(h6 b hm).2⟩
  .exact ⟨.inr hm,by omega⟩
 .rcases hg with hg | hg
  .exact ⟨Vn (h7 b hg).1 hb.size,(h7 b hg).2.1,(h7 b hg).2.2⟩
  .have:=Du h2 hg.1 hg.2;exact ⟨this.1,⟨this.2.1.1,fun hx=>this.2.1.2 (.inl hx)⟩,this.2.2⟩
theorem qI {A a1:Act} {st1 lK:aj} {LA:Nat -> Value} (h:aH cx A w st1 L) (hf:Fr cx w st1.tab L st1.next w' lK.tab LA lK.next) (hA:aH cx a1 w' lK LA):aH cx A w' ⟨st1.n,st1.env,lK.tab,lK.next⟩ LA:=
 ⟨hA.lay,h.size,h.defers.mono hf.ext.blk hf.ext.sub,hA.young,fun t=>⟨hf.ext.rv (h.env t).1 (h.env t).2,AV.lt_mono hf.next (h.env t).2⟩⟩
theorem kq {l:Nat} {r:Loop} (h:aH cx a w st L) (hb:cx.w0.heap.size<=l) (hl:w.heap[l]? = some (.loop r)) (r':Loop):aH cx a (w.putObj l (.loop r')) st L:=by
 have:=wa h (iV.turn hb hl r') (ds:=a.defers) ⟨h.defers.1,fun d hd=>?_⟩
 .exact this
 .obtain ⟨k,h1,h2,h3,h4⟩:=h.defers.2 d hd;have hne:k ≠ l:=fun e=>by rw [e,hl] at h3;cases h3
  exact ⟨k,h1,h2,(World.putObj_heap_other hne).trans h3,⟨by simp;exact h4.1,h4.2.1,h4.2.2⟩⟩
def jU:List (Nat × AV) -> aj -> aj
 | [],st=>st
 | (p,av) :: l,st=>jU l (st.put (some p) av)
theorem sO:∀ (l:List (Nat × AV)) (st:aj),(jU l st).tab=st.tab /\ (jU l st).next=st.next /\ (jU l st).n=st.n
 | [],_=>⟨rfl,rfl,rfl⟩
 | (p,av) :: l,st=>sO l (st.put (some p) av)
theorem qG:∀ (ps:List Nat) (vs:List Value) (x:List AV) {t:Array Value} {st:aj},aH cx { tmps:=t,defers:=[] } w st L -> vs.length=ps.length -> x.length=ps.length ->
  (∀ (j:Nat) (v:Value) (av:AV),vs[j]? = some v -> x[j]? = some av -> bQ cx w st.tab L v av /\ av.lt st.next) ->
  aH cx { tmps:=(ps.zip vs).foldl (fun t (p:Nat × Value)=>t.setIfInBounds p.1 p.2) t,defers:=[] } w (jU (ps.zip x) st) L
 | [],_,_,_,_,h,_,_,_=>h
 | p :: ps,[],_,_,_,_,h1,_,_=>by simp at h1
 | p :: ps,v :: vs,[],_,_,_,_,h2,_=>by simp at h2
 | p :: ps,v :: vs,av :: x,t,st,h,h1,h2,h3=>by
  have h4:=h3 0 v av rfl rfl;have h5:=bp h h4.1 h4.2 (some p);exact qG ps vs x (t:=t.setIfInBounds p v) (st:=st.put (some p) av) h5 (by simpa using h1) (by simpa using h2) fun j v' av' h6 h7=>h3 (j+1) v' av' (by simpa using h6) (by simpa using h7)
def OQ (I:List (List AV) -> aj -> Prop) (Ix:Code -> List (List AV) -> aj -> Prop) (pre:List (List AV)) (st1:aj):Exit -> aj -> Prop
 | .normal,st'=>Mp (I pre) ⟨st1.n,st1.env,st'.tab,st'.next⟩
 | .ret,st'=>Mp (Ix .ret pre) ⟨st1.n,st1.env,st'.tab,st'.next⟩
 | .exit id,st'=>Mp (Ix (.exit id) pre) ⟨st1.n,st1.env,st'.tab,st'.next⟩
 | _,_=>False
def Ph:Exit -> aj -> Prop:=fun _ _=>False
theorem AK {a0:Act} {l fn D:Nat} {T M:Nat -> Prop} {ps:Array Tmp} {assign body:Code} {I:List (List AV) -> aj -> Prop} {Ix:Code -> List (List AV) -> aj -> Prop} {pre:List (List AV)} {x:List AV} {vs:Array Value}
  (hfa:jP assign=true) (hfb:jP body=true) (hn:x.length=ps.size) (hb:cx.w0.heap.size<=l)
  (hr:∀ st1,I pre st1 -> bD P assign (mj (bD P body (OQ I Ix (pre ++ [x]) st1)) Ph) (jU (ps.toList.zip x) st1))
  (h:Nz cx a0 l { state:=.ready,pending:=none,fn,tmps:=a0.tmps,params:=ps,assign,body,defers:=D } (I pre) T M w) (hv:vs.size=x.length) (hrt:∀ (j:Nat) (v:Value) (av:AV),vs[j]? = some v -> x[j]? = some av -> RT w (fun b=>T b /\ ¬ M b) v av) :
  YieldAt Fence.wide 0 P l vs w fun e W'=>(e=.returned (.bool true) /\ Nz cx a0 l { state:=.ready,pending:=none,fn,tmps:=a0.tmps,params:=ps,assign,body,defers:=D } (I (pre ++ [x])) T M W' /\ yw T w W') \/
   (e=.returned (.bool false) /\ (∃ c,Nz cx a0 l { state:=.done,pending:=some c,fn,tmps:=a0.tmps,params:=ps,assign,body,defers:=D } (Ix c (pre ++ [x])) T M W') /\ yw T w W'):=by
 obtain ⟨hqq,st1,L,hI,hC,hl,hSl,hTl,hMT,hT⟩:=h;have hb:(cx.ex M hqq).w0.heap.size<=l:=hb;have hy:=run_yield (P:=P) (args:=vs) hl (by simp;omega);refine ⟨fn,_,assign,body,hy,roundIn_of_wpIn trivial ?_⟩;have hC0:aH (cx.ex M hqq) { tmps:=a0.tmps,defers:=[] } w st1 L:=⟨hC.lay,hC.size,jR.nil _ _ _,hC.young,hC.env⟩
 have hTS:∀ b,T b /\ ¬ M b -> Sx (cx.ex M hqq) w st1.tab L b:=fun b hb'=>⟨(hT b hb'.1).1,⟨(hT b hb'.1).2.1.1,fun hx=>by
  rcases hx with hx|hx
  .exact (hT b hb'.1).2.1.2 hx
  .exact hb'.2 hx⟩,(hT b hb'.1).2.2⟩
 have hCp:=qG ps.toList vs.toList x hC0 (by simp;omega) (by simpa using hn) fun j v av h1 h2=>by
  have:=hrt j v av (by simpa using h1) h2;exact ⟨.tree (this.mono (fun _ _=>rfl) hTS),this.lt _⟩
 have ef:(ps.zip vs).foldl (fun tmps (x:Tmp × Value)=>match x with | (t,a)=>tmps.setIfInBounds t a) a0.tmps=(ps.toList.zip vs.toList).foldl (fun t (p:Nat × Value)=>t.setIfInBounds p.1 p.2) a0.tmps:=by
  rw [<- Array.foldl_toList,Array.toList_zip]
 rw [ef];obtain ⟨e1,e2,_⟩:=sO (ps.toList.zip x) st1;refine wpIn_mono (zE assign hfa _ _ _ _ _ hCp (hr st1 hI)) fun e a1 w1 ⟨lK,LA,hq,hCA,hFA⟩=>?_;rw [e1,e2] at hFA
 cases e with
 | normal=>
  have hl1:w1.heap[l]? = _:=(hFA.keep l hSl.1 hSl.2.2).trans hl;have hSl1:=hFA.ext.sub l hSl;refine ⟨_,run_beginRound hl1 rfl,?_⟩;have hCA2:=kq hCA hb hl1 { state:=.busy,pending:=none,fn,tmps:=a0.tmps,params:=ps,assign,body,defers:=D };have hF1:=qI hC hFA hCA;have hF2:=kq hF1 hb hl1 { state:=.busy,pending:=none,fn,tmps:=a0.tmps,params:=ps,assign,body,defers:=D };have hos2:∀ o,(w1.putObj l o).os=w1.os /\ (w1.putObj l o).tape=w1.tape /\ (w1.putObj l o).output=w1.output:=fun o=>⟨rfl,rfl,rfl⟩;generalize hw2:w1.putObj l (.loop { state:=.busy,pending:=none,fn,tmps:=a0.tmps,params:=ps,assign,body,defers:=D })=w2 at hCA2 hF2;have hsz2:w2.heap.size=w1.heap.size:=by rw [<- hw2];simp
  have hl2:w2.heap[l]? = some (.loop { state:=.busy,pending:=none,fn,tmps:=a0.tmps,params:=ps,assign,body,defers:=D }):=by rw [<- hw2];exact World.putObj_heap_same hSl1.1
  have hoth2:∀ b,b ≠ l -> w2.heap[b]? = w1.heap[b]?:=fun b hb'=>by rw [<- hw2];exact World.putObj_heap_other hb'
  have hS2:∀ b,Sx (cx.ex M hqq) w1 lK.tab LA b -> Sx (cx.ex M hqq) w2 lK.tab LA b:=fun b hs=>⟨by rw [hsz2];exact hs.1,hs.2.1,hs.2.2⟩;refine wpIn_mono (zE body hfb _ _ _ _ _ hCA2 hq) fun e a2 w3 ⟨stB,LB,hq2,hCB,hFB⟩=>?_;have hl3:w3.heap[l]? = _:=(hFB.keep l (hS2 l hSl1).1 (hS2 l hSl1).2.2).trans hl2;have hSl3:=hFB.ext.sub l (hS2 l hSl1);have hF3:=qI (st1:=⟨st1.n,st1.env,lK.tab,lK.next⟩) hF2 hFB hCB
  have hown2:∀ b,T b -> ∀ id o,lK.tab.get id=some o -> aO (LA id) ≠ some b:=fun b hb' id o hid hg=>by
   obtain ⟨id2,o2,h3,h4⟩:=hFA.young id o b hid hg (hT b hb').1;exact (hT b hb').2.2 id2 o2 h3 h4
  have hkeep:∀ b,T b -> w3.heap[b]? = w.heap[b]?:=fun b hb'=>by
   have hbl:b ≠ l:=fun e=>hTl (by rw [<- e];exact hb');have h1:=(hT b hb').1;have h2:=hFA.size;rw [hFB.keep b (by omega) (hown2 b hb'),hoth2 b hbl,hFA.keep b h1 (hT b hb').2.2]
  have fin:∀ (jump:Option Code) (s:LoopState) (K:aj -> Prop),(if jump.isNone then LoopState.ready else LoopState.done)=s -> Mp K ⟨st1.n,st1.env,stB.tab,stB.next⟩ ->
    (Instr.endRound l jump).run P w3=.ok (.bool jump.isNone) (w3.putObj l (.loop { state:=s,pending:=jump,fn,tmps:=a0.tmps,params:=ps,assign,body,defers:=D })) /\
    Nz cx a0 l { state:=s,pending:=jump,fn,tmps:=a0.tmps,params:=ps,assign,body,defers:=D } K T M (w3.putObj l (.loop { state:=s,pending:=jump,fn,tmps:=a0.tmps,params:=ps,assign,body,defers:=D })) /\
    yw T w (w3.putObj l (.loop { state:=s,pending:=jump,fn,tmps:=a0.tmps,params:=ps,assign,body,defers:=D })):=fun jump s K hs hK=>by
   subst hs;have hr3:=run_endRound (P:=P) jump hl3;refine ⟨hr3,?_,?_⟩
   .obtain ⟨stC,hweak,hKC⟩:=hK;have hF4:=kq hF3 hb hl3 { state:=if jump.isNone then .ready else .done,pending:=jump,fn,tmps:=a0.tmps,params:=ps,assign,body,defers:=D };obtain ⟨LC,hCC,hSC⟩:=hweak _ _ _ _ hF4;have up:∀ b,Sx (cx.ex M hqq) w3 stB.tab LB b -> Sx (cx.ex M hqq) (w3.putObj l (.loop { state:=if jump.isNone then .ready else .done,pending:=jump,fn,tmps:=a0.tmps,params:=ps,assign,body,defers:=D })) stC.tab LC b:=fun b hs=>hSC b ⟨by simp;exact hs.1,hs.2.1,hs.2.2⟩;refine ⟨hqq,stC,LC,hKC,hCC,World.putObj_heap_same hSl3.1,up l hSl3,hTl,hMT,fun b hb'=>?_⟩;by_cases hm:M b
    .refine ⟨(hCC.lay.ex b (.inr hm)).1,(hT b hb').2.1,(hCC.lay.ex b (.inr hm)).2⟩
    .have:=up b (hFB.ext.sub b (hS2 b (hFA.ext.sub b (hTS b ⟨hb',hm⟩))));exact ⟨this.1,(hT b hb').2.1,this.2.2⟩
   .have hW:ci (cx.ex M hqq).X (cx.ex M hqq).w0.heap.size (cx.ex M hqq).w0 w:=hC.lay.below;have hW3:ci (cx.ex M hqq).X (cx.ex M hqq).w0.heap.size (cx.ex M hqq).w0 w3:=hCB.lay.below;refine ⟨hW3.os.trans hW.os.symm,hW3.tape.trans hW.tape.symm,hW3.output.trans hW.output.symm,?_,fun b hb'=>?_⟩
    .have:=hFA.size;have:=hFB.size;simp;omega
    .have hbl:b ≠ l:=fun e=>hTl (by rw [<- e];exact hb');rw [World.putObj_heap_other hbl];exact hkeep b hb'
  cases e with
  | normal=>
   obtain ⟨h1,h2,h3⟩:=fin none .ready _ rfl hq2;exact ⟨_,_,h1,.inl ⟨rfl,h2,h3⟩⟩
  | ret=>
   obtain ⟨h1,h2,h3⟩:=fin (some .ret) .done _ rfl hq2;exact ⟨_,_,h1,.inr ⟨rfl,⟨_,h2⟩,h3⟩⟩
  | exit id=>
   obtain ⟨h1,h2,h3⟩:=fin (some (.exit id)) .done _ rfl hq2;exact ⟨_,_,h1,.inr ⟨rfl,⟨_,h2⟩,h3⟩⟩
  | goto t=>exact hq2.elim
  | panic c=>exact hq2.elim
  | outgrown=>exact hq2.elim
 | _=>exact hq.elim
theorem AU (hm:P.follows .mixedOrders=true) {g:Operand} {ps:Array Tmp} {assign body:Code} {Q:Exit -> aj -> Prop} {gf:FuncId} {caps:List AV} {xs:List (List AV)}
  (I:List (List AV) -> aj -> Prop) (Ix:Code -> List (List AV) -> aj -> Prop)
  (hg:HM (bm st g) fun g' cs=>g'=gf /\ cs=caps) (ht:aR caps) (hseq:PS P gf caps xs) (hx:∀ x ∈ xs,x.length=ps.size) (hfa:jP assign=true) (hfb:jP body=true)
  (h0:Mp (I []) st)
  (hr:∀ pre x st1,(pre ++ [x]) <+: xs -> I pre st1 -> bD P assign (mj (bD P body (OQ I Ix (pre ++ [x]) st1)) Ph) (jU (ps.toList.zip x) st1))
  (hd:∀ st',I xs st' -> Q .normal st') (hs:∀ c pre st',pre <+: xs -> Ix c pre st' -> bD P c Q st'):bD P (.rangeFunc g ps assign body) Q st:=by
 intro cx a w L h;obtain ⟨gf',lb,cs,hgv,hlb,hcap,⟨rfl,rfl⟩,_⟩:=sd (am h g).1 (am h g).2 hg;refine wpIn_wide.1 (wpIn_rangeFunc (n:=0) ?_);intro fn _;have hbase:cx.w0.heap.size<=w.heap.size:=h.lay.below.size;generalize hrec:({ state:=.ready,pending:=none,fn,tmps:=a.tmps,params:=ps,assign,body,defers:=w.heap.size }:Loop)=r;generalize hW1:(w.alloc (.deferred (some []))).alloc (.loop r)=W1
 have hb01:Below w.heap.size w W1:=by
  rw [<- hW1];exact ((Below.refl _ w).alloc (Vh _) _).alloc (by simp) _
 have hs1:W1.heap.size=w.heap.size+2:=by rw [<- hW1];simp
 have hL1:W1.heap[w.heap.size+1]? = some (.loop r):=by
  rw [<- hW1];have:=World.alloc_heap_new (w.alloc (.deferred (some []))) (.loop r)
  rwa [World.size_alloc] at this
 have hK1:W1.heap[w.heap.size]? = some (.deferred (some [])):=by
  rw [<- hW1];exact (Below.heap_alloc _ _ _ (by simp)).trans (World.alloc_heap_new w _)
 have hC1:aH cx { a with defers:=[{ target:=.collected w.heap.size,args:=#[] }] ++ a.defers } W1 st L:=by
  have h1:=fX h hb01;refine ⟨h1.lay,h1.size,⟨List.nodup_cons.2 ⟨fun hmem=>?_,h1.defers.1⟩,fun d hd=>?_⟩,h1.young,h1.env⟩
  .obtain ⟨k,e,_,_,h2⟩:=h.defers.2 _ hmem
   injection e with e _
   injection e with e
   have:=h2.1;omega
  .rcases Wf.1 hd with rfl | hd
   .exact ⟨_,rfl,hbase,hK1,Du h (Vh _) (by omega)⟩
   .exact h1.defers.2 d hd
 obtain ⟨st0,hweak,hI0⟩:=h0;obtain ⟨L0,hC0,hS0⟩:=hweak _ _ _ _ hC1
 refine ⟨w.heap.size+1,[{ target:=.collected w.heap.size,args:=#[] }],W1,{ target:=.fn (.func gf') lb,args:=#[.func (.yield (w.heap.size+1)) #[] #[]] },W1,gf',
  #[.func (.yield (w.heap.size+1)) #[] #[]] ++ lb,W1,?_,?_,fun _ _=>trivial,?_,fun h=>(by cases h),?_⟩
 .rw [<- hW1,<- hrec];exact run_enterLoop_outer _ _ _ _ _
 .simp only [resolve,hgv];simp [go_sem]
 .have:=hseq.1 (#[.func (.yield (w.heap.size+1)) #[] #[]] ++ lb) W1;simp [invoke,go_sem,this]
 .have hpre:∀ {pre:List (List AV)} {x:List AV},(pre ++ [x]) <+: xs -> x.length=ps.size:=fun hp=>hx _ (hp.subset (by simp))
  have hex0:∀ {cx':Cx} {W:World} {st:aj} {L:Nat -> Value} {A:Act},aH cx' A W st L -> aH (cx'.ex (fun _=>False) fun _ h=>h.elim) A W st L:=fun h=>by
   refine mQ h rfl (fun _ _=>rfl) (fun _ _ _ _ _=>rfl) (fun b hs=>⟨hs.1,⟨hs.2.1.1,fun hx=>hs.2.1.2 (hx.resolve_right id)⟩,hs.2.2⟩) ⟨h.lay.below.os,h.lay.below.tape,h.lay.below.output,h.lay.below.size,fun k hk hx=>h.lay.below.block k hk fun hx'=>hx (.inl hx')⟩ (fun b hx=>h.lay.ex b (hx.resolve_right id))
  have hex1:∀ {M:Nat -> Prop} {W:World} {st:aj} {L:Nat -> Value} {A:Act},(hq:∀ b,M b -> cx.w0.heap.size<=b) -> aH (cx.ex M hq) A W st L -> aH cx A W st L:=fun hM h=>by
   have hbl:ci (cx.ex _ hM).X cx.w0.heap.size cx.w0 _:=h.lay.below;refine mQ h rfl (fun _ _=>rfl) (fun _ _ _ _ _=>rfl) (fun b hs=>⟨hs.1,⟨hs.2.1.1,fun hx=>hs.2.1.2 (.inl hx)⟩,hs.2.2⟩) ⟨hbl.os,hbl.tape,hbl.output,hbl.size,fun k hk hx=>hbl.block k hk fun hx'=>?_⟩ (fun b hx=>h.lay.ex b (.inl hx));rcases hx' with hx'|hx'
   .exact hx hx'
   .have:=hM k hx';omega
  refine (hseq.2 (w.heap.size+1) (Sx cx w st.tab L) lb W1
   (fun pre T M W=>Nz cx { a with defers:=[{ target:=.collected w.heap.size,args:=#[] }] ++ a.defers } (w.heap.size+1) { state:=.ready,pending:=none,fn,tmps:=a.tmps,params:=ps,assign,body,defers:=w.heap.size } (I pre) T M W)
   (fun pre T M W=>∃ c,Nz cx { a with defers:=[{ target:=.collected w.heap.size,args:=#[] }] ++ a.defers } (w.heap.size+1) { state:=.done,pending:=some c,fn,tmps:=a.tmps,params:=ps,assign,body,defers:=w.heap.size } (Ix c pre) T M W)
   hlb ⟨fun b hb=>Vn hb.1 hb01.size,h.lay.amb.below hb01,h.lay.sok.tab⟩ (fun j v av h1 h2=>?_) (fun pre T M W ⟨_,_,_,_,_,_,_,_,_,hT⟩ b hb=>(hT b hb).1) (fun pre T M M' W W' hj hb hm=>hj.step hb hm) (fun pre T M M' W W' ⟨c,hj⟩ hb hm=>⟨c,hj.step hb hm⟩)
   (fun pre x T M W vs hj hp hv hrt=>AK (a0:={ a with defers:=[{ target:=.collected w.heap.size,args:=#[] }] ++ a.defers }) hfa hfb (hpre hp) (by omega) (fun st1 hi=>hr pre x st1 hp hi) hj hv hrt) ?_).mono ?_
  .have h3:=dS (hcap j v av h1 h2) (dT.1 ht av (Os h2));exact h3.mono (fun p hp=>World.cell?_of_block (hb01.block p.block hp.1)) fun b hb=>hb
  .have hC0':=hex0 hC0;have hSl:=hS0 _ (Du (w':=W1) h (b:=w.heap.size+1) (by omega) (by omega));refine ⟨fun _ h=>h.elim,st0,L0,hI0,hC0',by rw [hL1,<- hrec],⟨hSl.1,⟨hSl.2.1.1,fun hx=>hSl.2.1.2 (hx.resolve_right id)⟩,hSl.2.2⟩,fun hT=>?_,fun b hb=>hb.elim,fun b hb=>hS0 b (Lp h hb01.size hb)⟩;have:=hT.1;omega
  .rintro e W2 ⟨⟨v,rfl⟩,(⟨T,M,hq2,st2,L2,h1,h2,h3,h4,_,h6,_⟩ | ⟨pre,T,M,hp,c,hq2,st2,L2,h1,h2,h3,h4,_,h6,_⟩)⟩
   .exact ⟨none,_,run_endLoop h3 (by simp),st2,L2,hd st2 h1,kq (hex1 hq2 h2) (by omega) h3 _⟩
   .refine ⟨some c,_,run_endLoop h3 (by simp),wpIn_wide.2 ?_⟩;exact pq hm c Q _ _ st2 L2 (kq (hex1 hq2 h2) (by omega) h3 _) (hs c pre st2 hp h1)
end
end
section
abbrev IG:=List (List AV) × Bool
def iK (K:IG -> aj -> Prop) (g:IG) (st:aj):Prop:=K g st
def Ey:AV -> Prop
 | .agg cs=>aR cs
 | av=>aY av
def yj:List AV -> Prop
 | []=>True
 | a :: l=>Ey a /\ yj l
theorem th:∀ {l:List AV},yj l -> ∀ a ∈ l,Ey a
 | a :: l,h,b,hb=>by
  rcases Wf.1 hb with rfl|hb
  .exact h.1
  .exact th h.2 b hb
theorem JC {cx:Cx} {w:World} {tab:af} {L:Nat -> Value} {x:Value} {av:AV} (h:bQ cx w tab L x av) (ht:Ey av):RT w (Sx cx w tab L) x av:=by
 cases av with
 | agg cs=>
  obtain ⟨xs,rfl,hn,hr⟩:=h.agg_inv;exact .agg xs cs hn fun j x av h1 h2=>dS (hr j x av h1 h2) (dT.1 ht av (Os h2))
 | _=>exact dS h ht
def Dd (xs:List (List AV)) (x:List AV) (dst:Option Nat) (K:IG -> aj -> Prop) (g:IG) (st:aj):Prop:=
 (g.2=true /\ yj x /\ (g.1 ++ [x]) <+: xs) /\ K (g.1 ++ [x],true) (st.put dst (.c (.bool true))) /\ K (g.1 ++ [x],false) (st.put dst (.c (.bool false)))
def tT (P:Program) (l:Nat) (xs:List (List AV)) (f:AV) (o:Oper) (args:List AV) (K:IG -> aj -> Prop) (g:IG) (st:aj):Prop:=
 match f with
 | .c (.func (.yield l') first caps)=>(l'=l /\ first = #[] /\ caps = #[]) /\ Dd xs args o.dst K g st
 | _=>jm P o (iK K g) st
def EQ (P:Program) (l:Nat) (xs:List (List AV)) (o:Oper) (K:IG -> aj -> Prop) (g:IG) (st:aj):Prop:=
 match o.op with
 | .call c=>match c.callee with
  | .value f=>tT P l xs (bm st f) o (c.args.toList.map (bm st)) K g st
  | _=>jm P o (iK K g) st
 | _=>jm P o (iK K g) st
def uQ (P:Program) (l:Nat) (xs:List (List AV)) (ops:Array Oper) (K:IG -> aj -> Prop):List Oper -> IG -> aj -> Prop
 | [],g,st=>K g st
 | o :: rest,g,st=>k7 ops o.guard (EQ P l xs o (uQ P l xs ops K rest) g) (lA o.dst (uQ P l xs ops K rest g)) st
def sQ (next:IG -> aj -> Prop) (Q:Exit -> IG -> aj -> Prop):Exit -> IG -> aj -> Prop
 | .normal,g,st=>next g st
 | e,g,st=>Q e g st
def kr (id:Nat) (Q:Exit -> IG -> aj -> Prop):Exit -> IG -> aj -> Prop
 | .exit id',g,st=>if id'=id then Q .normal g st else Q (.exit id') g st
 | e,g,st=>Q e g st
def BW (I:IG -> aj -> Prop) (μ:IG -> aj -> Nat) (n:Nat) (g:IG) (st:aj):Prop:=∃ st',dH st st' /\ I g st' /\ μ g st'<n
def el (P:Program) (l:Nat) (xs:List (List AV)):Code -> (Exit -> IG -> aj -> Prop) -> IG -> aj -> Prop
 | .skip,Q,g,st=>Q .normal g st
 | .region _ ops _,Q,g,st=>uQ P l xs ops (Q .normal) ops.toList g st
 | .seq x y,Q,g,st=>el P l xs x (sQ (el P l xs y Q) Q) g st
 | .cond c x y,Q,g,st=>ow (bm st c) (el P l xs x Q g) (el P l xs y Q g) st
 | .block id x,Q,g,st=>el P l xs x (kr id Q) g st
 | .loop x,Q,g,st=>∃ (I:IG -> aj -> Prop) (μ:IG -> aj -> Nat),(∃ st',dH st st' /\ I g st') /\ ∀ g st,I g st -> el P l xs x (sQ (BW I μ (μ g st)) Q) g st
 | .exit id,Q,g,st=>Q (.exit id) g st
 | .ret,Q,g,st=>Q .ret g st
 | _,_,_,_=>False
def Pj (P:Program) (l:Nat) (xs:List (List AV)) (x:Code) (Q:Exit -> IG -> aj -> Prop) (g:IG) (st:aj):Prop:=el P l xs (.loop x) Q g st
theorem zK {P:Program} {l:Nat} {xs:List (List AV)} {x:Code} {Q:Exit -> IG -> aj -> Prop} {g:IG} {st:aj} (I:IG -> aj -> Prop) (μ:IG -> aj -> Nat) (h0:∃ st',dH st st' /\ I g st') (h:∀ g st,I g st -> el P l xs x (sQ (BW I μ (μ g st)) Q) g st):Pj P l xs x Q g st:=⟨I,μ,h0,h⟩
theorem Es {I:IG -> aj -> Prop} {μ:IG -> aj -> Nat} {n:Nat} {g:IG} {st st':aj} (hw:dH st st') (hI:I g st') (hm:μ g st'<n):BW I μ n g st:=⟨st',hw,hI,hm⟩
section
variable {P:Program} {l:Nat} {xs:List (List AV)} {Q:Exit -> IG -> aj -> Prop} {g:IG} {st:aj} {K:IG -> aj -> Prop} {ops:Array Oper} {dst:Option Tmp} {op:Op} {ty:TypeId} {pos:String} {aft:Array Edge} {gd:Option (Nat × Bool)} {rest:List Oper}
theorem Cr:el P l xs .skip Q g st=Q .normal g st:=rfl
theorem E4 {id:Nat} {o:List Oper} {b:Bool}:el P l xs (.region id o.toArray b) Q g st=uQ P l xs o.toArray (Q .normal) o g st:=rfl
theorem GC {x y:Code}:el P l xs (.seq x y) Q g st=el P l xs x (sQ (el P l xs y Q) Q) g st:=rfl
theorem Cw {c:Operand} {x y:Code}:el P l xs (.cond c x y) Q g st=ow (bm st c) (el P l xs x Q g) (el P l xs y Q g) st:=rfl
theorem zU {id:Nat} {x:Code}:el P l xs (.block id x) Q g st=el P l xs x (kr id Q) g st:=rfl
theorem Ck {x:Code}:el P l xs (.loop x) Q g st=Pj P l xs x Q g st:=rfl
theorem CW {id:Nat}:el P l xs (.exit id) Q g st=Q (.exit id) g st:=rfl
theorem Fy:el P l xs .ret Q g st=Q .ret g st:=rfl
theorem wZ {next:IG -> aj -> Prop}:sQ next Q .normal g st=next g st:=rfl
theorem Cd {next:IG -> aj -> Prop} {id:Nat}:sQ next Q (.exit id) g st=Q (.exit id) g st:=rfl
theorem FJ {next:IG -> aj -> Prop}:sQ next Q .ret g st=Q .ret g st:=rfl
theorem rB {id:Nat}:kr id Q .normal g st=Q .normal g st:=rfl
theorem wM {id:Nat}:kr id Q .ret g st=Q .ret g st:=rfl
theorem uR {id id':Nat}:kr id Q (.exit id') g st=if id'=id then Q .normal g st else Q (.exit id') g st:=rfl
theorem IW:uQ P l xs ops K [] g st=K g st:=rfl
theorem Cp:uQ P l xs ops K (⟨dst,op,ty,pos,aft,none⟩ :: rest) g st=EQ P l xs ⟨dst,op,ty,pos,aft,none⟩ (uQ P l xs ops K rest) g st:=rfl
theorem H4 {x:Operand}:EQ P l xs ⟨dst,.move x,ty,pos,aft,gd⟩ K g st=jm P ⟨dst,.move x,ty,pos,aft,gd⟩ (iK K g) st:=rfl
theorem CN {x:Operand}:EQ P l xs ⟨dst,.assign x,ty,pos,aft,gd⟩ K g st=jm P ⟨dst,.assign x,ty,pos,aft,gd⟩ (iK K g) st:=rfl
theorem Iq {t:TypeId} {x:Operand}:EQ P l xs ⟨dst,.load t x,ty,pos,aft,gd⟩ K g st=jm P ⟨dst,.load t x,ty,pos,aft,gd⟩ (iK K g) st:=rfl
theorem FB {t:TypeId} {x:Operand} {f:Nat}:EQ P l xs ⟨dst,.fieldAddr t x f,ty,pos,aft,gd⟩ K g st=jm P ⟨dst,.fieldAddr t x f,ty,pos,aft,gd⟩ (iK K g) st:=rfl
theorem Pf {o:BinOp} {t t2:TypeId} {x y:Operand}:EQ P l xs ⟨dst,.binOp o t x y t2,ty,pos,aft,gd⟩ K g st=jm P ⟨dst,.binOp o t x y t2,ty,pos,aft,gd⟩ (iK K g) st:=rfl
theorem SH {o:UnOp} {t:TypeId} {x:Operand}:EQ P l xs ⟨dst,.unOp o t x,ty,pos,aft,gd⟩ K g st=jm P ⟨dst,.unOp o t x,ty,pos,aft,gd⟩ (iK K g) st:=rfl
theorem Nh {x:Operand} {t:TypeId}:EQ P l xs ⟨dst,.call ⟨.builtin .len,#[x],#[t]⟩,ty,pos,aft,gd⟩ K g st=jm P ⟨dst,.call ⟨.builtin .len,#[x],#[t]⟩,ty,pos,aft,gd⟩ (iK K g) st:=rfl
theorem I3 {f:Operand} {args:List Operand} {ts:Array TypeId}:EQ P l xs ⟨dst,.call ⟨.value f,args.toArray,ts⟩,ty,pos,aft,gd⟩ K g st=tT P l xs (bm st f) ⟨dst,.call ⟨.value f,args.toArray,ts⟩,ty,pos,aft,gd⟩ (args.map (bm st)) K g st:=by simp [EQ]
theorem yc {o:Oper} {args:List AV}:tT P l xs (.c (.func (.yield l) #[] #[])) o args K g st=Dd xs args o.dst K g st:=by simp [tT]
theorem T4:iK K g st=K g st:=rfl
end
def UH:=(And.intro (And.intro (And.intro (And.intro @Cr (And.intro @E4 @GC)) (And.intro @Cw (And.intro @zU @Ck))) (And.intro (And.intro @CW (And.intro @Fy @wZ)) (And.intro (And.intro @Cd @FJ) (And.intro @rB @wM)))) (And.intro (And.intro (And.intro @uR (And.intro @IW @Cp)) (And.intro @H4 (And.intro @CN @Iq))) (And.intro (And.intro @FB (And.intro @Pf @SH)) (And.intro (And.intro @Nh @I3) (And.intro @yc @T4)))))
structure Gw (P:Program) (l:Nat) (xs:List (List AV)) (J Jx:List (List AV) -> (Nat -> Prop) -> (Nat -> Prop) -> World -> Prop):Prop where
 keep:∀ pre T M M' W W',J pre T M W -> ci M W.heap.size W W' -> (∀ b,M' b -> M b \/ (W.heap.size<=b /\ b<W'.heap.size)) -> J pre (pW T W W') M' W'
 keepx:∀ pre T M M' W W',Jx pre T M W -> ci M W.heap.size W W' -> (∀ b,M' b -> M b \/ (W.heap.size<=b /\ b<W'.heap.size)) -> Jx pre (pW T W W') M' W'
 round:∀ pre x T M W (vs:Array Value),J pre T M W -> (pre ++ [x]) <+: xs -> vs.size=x.length -> (∀ (j:Nat) (v:Value) (av:AV),vs[j]? = some v -> x[j]? = some av -> RT W (fun b=>T b /\ ¬ M b) v av) ->
   YieldAt Fence.wide 0 P l vs W fun e W'=>(e=.returned (.bool true) /\ J (pre ++ [x]) T M W' /\ yw T W W') \/ (e=.returned (.bool false) /\ Jx (pre ++ [x]) T M W' /\ yw T W W')
def JJ (J Jx:List (List AV) -> (Nat -> Prop) -> (Nat -> Prop) -> World -> Prop) (g:IG) (T M:Nat -> Prop) (W:World):Prop:=match g.2 with | true=>J g.1 T M W | false=>Jx g.1 T M W
def Po (T:Nat -> Prop) (W:World) (b:Nat):Prop:=b<W.heap.size /\ ¬ T b
structure tJ (T0:Nat -> Prop) (W0:World) (T:Nat -> Prop):Prop where
 amb:Eb W0
 tab0:∀ b,b<xY -> T0 b
 tab:∀ b,b<xY -> T b
def DS (T0:Nat -> Prop) (W0:World) (T:Nat -> Prop) (W:World) (hq:tJ T0 W0 T):Cx:=⟨T0,W0,Po T W,hq.amb,fun b hb=>Nat.le_of_not_lt fun h=>hb.2 (hq.tab b h),hq.tab0⟩
def Dr (tab:af) (L:Nat -> Value) (b:Nat):Prop:=∃ id o,tab.get id=some o /\ aO (L id)=some b
def Mc (T0:Nat -> Prop) (W0:World) (J Jx:List (List AV) -> (Nat -> Prop) -> (Nat -> Prop) -> World -> Prop) (g:IG) (st:aj) (a:Act) (W:World):Prop:=
 ∃ (T:Nat -> Prop) (hqq:tJ T0 W0 T) (L:Nat -> Value),aH (DS T0 W0 T W hqq) a W st L /\ a.defers=[] /\ (∀ b,T b -> b<W.heap.size) /\ JJ J Jx g T (Dr st.tab L) W
section
variable {P:Program} {l:Nat} {xs:List (List AV)} {T0:Nat -> Prop} {W0:World} {J Jx:List (List AV) -> (Nat -> Prop) -> (Nat -> Prop) -> World -> Prop} {g:IG} {st st':aj} {a a':Act} {W W':World} {L L':Nat -> Value} {T M M':Nat -> Prop}
theorem Ia (hs:W.heap.size<=W'.heap.size):Po (pW T W W') W'=Po T W:=by
 funext b
 apply propext;unfold Po pW;constructor
 .rintro ⟨h1,h2⟩;exact ⟨Nat.lt_of_not_le fun h=>h2 (.inr ⟨h,h1⟩),fun h=>h2 (.inl h)⟩
 .rintro ⟨h1,h2⟩;refine ⟨by omega,fun h=>?_⟩;rcases h with h|h
  .exact h2 h
  .omega
theorem tJ.grow (hq:tJ T0 W0 T):tJ T0 W0 (pW T W W'):=⟨hq.amb,hq.tab0,fun b hb=>.inl (hq.tab b hb)⟩
theorem Km (hq:tJ T0 W0 T) (hs:W.heap.size<=W'.heap.size):DS T0 W0 (pW T W W') W' hq.grow=DS T0 W0 T W hq:=by
 unfold DS
 congr 1
 exact Ia hs
theorem vH:pW T W W=T:=by
 funext b
 apply propext;unfold pW;constructor
 .rintro (h | h)
  .exact h
  .omega
 .exact .inl
theorem EI (H:Gw P l xs J Jx) (h:JJ J Jx g T M W) (hb:ci M W.heap.size W W') (hM:∀ b,M' b -> M b \/ (W.heap.size<=b /\ b<W'.heap.size)):JJ J Jx g (pW T W W') M' W':=by
 obtain ⟨pre,b⟩:=g;cases b
 .exact H.keepx _ _ _ _ _ _ h hb hM
 .exact H.keep _ _ _ _ _ _ h hb hM
theorem Sd {hqq:tJ T0 W0 T} (h:aH (DS T0 W0 T W hqq) a W st L) {b:Nat} (hs:Sx (DS T0 W0 T W hqq) W st.tab L b):T b /\ ¬ Dr st.tab L b:=
 ⟨Classical.byContradiction fun hn=>hs.2.1.2 ⟨hs.1,hn⟩,fun ⟨id,o,h1,h2⟩=>hs.2.2 id o h1 h2⟩
theorem Pz {hqq:tJ T0 W0 T} (h:aH (DS T0 W0 T W hqq) a W st L) {id:Nat} {o:aD} {b:Nat} (h1:st.tab.get id=some o) (h2:aO (L id)=some b):T b:=
 Classical.byContradiction fun hn=>(h.lay.ex b ⟨((h.lay.objs id o h1).ge h2).2,hn⟩).2 id o h1 h2
theorem FC {hqq:tJ T0 W0 T} (h:aH (DS T0 W0 T W hqq) a W st L) (hk:yw T W W'):aH (DS T0 W0 T W' hqq) a W' st L:=by
 have hW:ci (Po T W) W0.heap.size W0 W:=h.lay.below;refine mQ h rfl (fun b hs=>hk.block b (Sd h hs).1) (fun id o g h1 h2=>hk.block g (Pz h h1 h2)) (fun b hs=>⟨Vn hs.1 hk.size,⟨hs.2.1.1,fun hx=>hx.2 (Sd h hs).1⟩,hs.2.2⟩) ?_ (fun b hx=>⟨hx.1,fun id o h1 h2=>hx.2 (Pz h h1 h2)⟩);refine ⟨hk.os.trans hW.os,hk.tape.trans hW.tape,hk.output.trans hW.output,VC hW.size hk.size,fun k (hk':k<W0.heap.size) hx=>?_⟩;have hT:T k:=Classical.byContradiction fun hn=>hx ⟨Vn hk' (VC hW.size hk.size),hn⟩;exact (hk.block k hT).trans (hW.block k hk' fun hx'=>hx'.2 hT)
theorem Bu {o:Oper} {next:Act -> World -> Prop} {Q:Exit -> Act -> World -> Prop} (h:o.wp P a W next Q):o.wpIn Fence.wide 0 P a W next Q:=by
 refine ⟨fun _ _=>trivial,?_⟩;show o.uponIn Fence.wide 0 P a next Q ((execOp a.eval o).run P W);unfold Oper.wp at h;generalize (execOp a.eval o).run P W=r at h
 cases r with
 | ok x w1=>
  cases x with
  | value v=>exact h
  | skip=>exact h
  | defer d=>exact h
  | enter f args=>exact ⟨fun h=>(by cases h),callsIn_wide.2 h⟩
  | row row args=>
   refine ⟨fun h=>(by cases h),fun c cs _=>?_⟩;obtain ⟨v,w',h1,h2⟩:=h c cs;exact ⟨v,w',h1,stepsIn_wide.2 h2⟩
  | _=>exact h.elim
 | halt x w1=>
  cases x<;>first|exact h|exact h.elim
theorem Qx (H:Gw P l xs J Jx) {o:Oper} {K:IG -> aj -> Prop} {Q:Exit -> Act -> World -> Prop} (hf:Im o=true) (h:Mc T0 W0 J Jx g st a W) (hp:EQ P l xs o K g st) :
  o.wpIn Fence.wide 0 P a W (fun a' W'=>∃ g' st',K g' st' /\ Mc T0 W0 J Jx g' st' a' W') Q:=by
 obtain ⟨T,hqq,L,hC,hd,hT,hJ⟩:=h
 have plain:jm P o (iK K g) st -> o.wpIn Fence.wide 0 P a W (fun a' W'=>∃ g' st',K g' st' /\ Mc T0 W0 J Jx g' st' a' W') Q:=fun hp=>by
  refine Bu (Oper.wp_mono (fun a' W' ⟨st',L',h2,h3,h4,h5⟩=>?_) (Dk hC hp hf));have hW:ci (Po T W) W0.heap.size W0 W:=hC.lay.below;have hW':ci (Po T W) W0.heap.size W0 W':=h3.lay.below;refine ⟨g,st',h2,pW T W W',hqq.grow,L',by rw [Km hqq h4.size];exact h3,h5.trans hd,fun b hb'=>?_,EI H hJ ⟨hW'.os.trans hW.os.symm,hW'.tape.trans hW.tape.symm,hW'.output.trans hW.output.symm,h4.size,fun k hk hn=>h4.keep k hk fun id o h6 h7=>hn ⟨id,o,h6,h7⟩⟩ fun b hb'=>?_⟩
  .rcases hb' with hb' | hb'
   .exact Vn (hT b hb') h4.size
   .exact hb'.2
  .obtain ⟨id,o,h6,h7⟩:=hb';rcases Vw b W.heap.size with hlt|hge
   .obtain ⟨id2,o2,h8,h9⟩:=h4.young id o b h6 h7 hlt;exact .inl ⟨id2,o2,h8,h9⟩
   .exact .inr ⟨hge,((h3.lay.objs id o h6).ge h7).2⟩
 obtain ⟨dst,op,ty,pos,aft,gd⟩:=o;unfold EQ at hp;simp only at hp;split at hp
 .rename_i c;obtain ⟨callee,args,argTypes⟩:=c;simp only at hp;split at hp
  .rename_i f;unfold tT at hp;split at hp
   .rename_i l' first caps hfv
    obtain ⟨⟨rfl,rfl,rfl⟩,⟨h1,h2,h3⟩,h4,h5⟩:=hp;have hfe:=(am hC f).1;rw [hfv] at hfe;have hfe:=hfe.c_inv
    have hJ':J g.1 T (Dr st.tab L) W:=by
     unfold JJ at hJ;rw [h1] at hJ;exact hJ
    have hrt:∀ (j:Nat) (v:Value) (av:AV),(args.map a.eval)[j]? = some v -> (args.toList.map (bm st))[j]? = some av -> RT W (fun b=>T b /\ ¬ Dr st.tab L b) v av:=fun j v av h6 h7=>by
     rw [XF] at h6;rw [Ve,Wg] at h7
     cases hj:args[j]? with
     | none=>simp [hj] at h6
     | some x=>
      simp [hj] at h6 h7;subst h6 h7;have htr:=th h2 (bm st x) (Vx.2 ⟨x,Os (by rw [Wg];exact hj),rfl⟩);exact (JC (am hC x).1 htr).mono (fun _ _=>rfl) fun b hb=>Sd hC hb
    obtain ⟨fn,tmps,assign,body,hy,hR⟩:=H.round g.1 _ T _ W (args.map a.eval) hJ' h3 (by simp) hrt;refine ⟨fun _ _=>trivial,?_⟩
    have hrun:(execOp a.eval { dst:=dst,op:=.call { callee:=.value f,args:=args,argTypes:=argTypes },type:=ty,pos:=pos,after:=aft,guard:=gd }).run P W=.ok (.round l' fn tmps assign body) W:=by
     simp [execOp,Sem.run_bind,resolve,hfe,Deferred.ofValue,invoke,hy]
    have hsem:∀ o:Oper,Oper.semAt Fence.wide.round a.eval o=execOp a.eval o:=fun o=>Oper.semAt_none _ _;rw [hsem,hrun,Oper.uponIn_round];refine ⟨fun h=>(by cases h),hR.mono ?_⟩
    have hput:∀ b:Bool,∀ W',yw T W W' -> aH (DS T0 W0 T W' hqq) (a.put dst (.bool b)) W' (st.put dst (.c (.bool b))) L /\ (a.put dst (.bool b)).defers=[] /\ ∀ x,T x -> x<W'.heap.size:=fun b W' hk=>
     ⟨bp (FC hC hk) (.tree (.c _)) trivial dst,by rw [bk];exact hd,fun x hx=>Vn (hT x hx) hk.size⟩
    rintro e W' (⟨rfl,hj,hk⟩ | ⟨rfl,hj,hk⟩)
    .obtain ⟨c1,c2,c3⟩:=hput true W' hk;exact ⟨_,_,h4,T,hqq,L,c1,c2,c3,by rw [bN];exact hj⟩
    .obtain ⟨c1,c2,c3⟩:=hput false W' hk;exact ⟨_,_,h5,T,hqq,L,c1,c2,c3,by rw [bN];exact hj⟩
   .exact plain hp
  .exact plain hp
 .exact plain hp
theorem wX (H:Gw P l xs J Jx) {ops:Array Oper} {K:IG -> aj -> Prop} {Q:Exit -> Act -> World -> Prop} (hQ:∀ g st a W,K g st -> Mc T0 W0 J Jx g st a W -> Q .normal a W) :
  ∀ (s:List Oper) (g:IG) (st:aj) (a:Act) (W:World),(∀ o ∈ s,Im o=true) -> Mc T0 W0 J Jx g st a W -> uQ P l xs ops K s g st -> wpListIn Fence.wide 0 P ops Q s a W
 | [],g,st,a,W,_,h,hp=>hQ g st a W hp h
 | o :: rest,g,st,a,W,hf,h,hp=>by
  unfold uQ at hp;have hfo:=hf o (Wc ..);obtain ⟨T,hqq,L,hC,hd,hT,hJ⟩:=h;refine wpListIn_step fun K' hK'=>?_;rcases cC hC hp o rfl with ⟨hw,st',h1,h2,e1,e2⟩|⟨hw,st',h1,h2,e1,e2⟩
  .rw [Vo hw];have hi:=Qx (Q:=Q) H hfo ⟨T,hqq,L,h2,hd,hT,by rw [e1];exact hJ⟩ h1;refine ⟨hi.1,?_⟩;have:=hi.2;revert this;generalize (o.semAt Fence.wide.round a.eval).run P W=r;intro this;have hm:∀ a' W',(∃ g' st',uQ P l xs ops K rest g' st' /\ Mc T0 W0 J Jx g' st' a' W') -> K' a' W':=fun a' W' ⟨g',st'',h3,h4⟩=>hK' a' W' (wX H hQ rest g' st'' a' W' (fun o ho=>hf o (V0 _ ho)) h4 h3)
   cases r with
   | ok x w1=>
    cases x with
    | value v=>exact hm _ _ this
    | skip=>exact hm _ _ this
    | defer d=>exact hm _ _ this
    | enter f args=>
     refine ⟨this.1,this.2.mono ?_⟩;intro e w'' h5
     cases e with
     | returned v=>exact hm _ _ h5
     | panicked c=>exact h5
     | outgrown=>exact h5
    | row row args=>exact ⟨this.1,this.2.mono fun v w'' h5=>hm _ _ h5⟩
    | round l f tmps assign body=>
     refine ⟨this.1,this.2.mono ?_⟩;intro e w'' h5
     cases e with
     | returned v=>exact hm _ _ h5
     | panicked c=>exact h5
     | outgrown=>exact h5
    | _=>exact this
   | halt x w1=>cases x<;>exact this
  .rw [Vj (by simp [hw])];exact ⟨fun _ _=>trivial,hK' _ _ (wX H hQ rest g _ _ W (fun o ho=>hf o (V0 _ ho)) ⟨T,hqq,L,bZ h2 o.dst,by rw [bk];exact hd,hT,by rw [bN,e1];exact hJ⟩ h1)⟩
def gI:Code -> Bool
 | .skip=>true
 | .region _ ops draw=>!draw && ops.toList.all Im
 | .seq x y=>gI x && gI y
 | .cond _ x y=>gI x && gI y
 | .block _ x=>gI x
 | .loop x=>gI x
 | .exit _=>true
 | .ret=>true
 | _=>false
abbrev QI (T0:Nat -> Prop) (W0:World) (J Jx:List (List AV) -> (Nat -> Prop) -> (Nat -> Prop) -> World -> Prop) (Q:Exit -> IG -> aj -> Prop):Exit -> Act -> World -> Prop:=fun e a W=>∃ g st,Q e g st /\ Mc T0 W0 J Jx g st a W
theorem Aq (H:Gw P l xs J Jx) (h:Mc T0 W0 J Jx g st a W) (hw:dH st st'):Mc T0 W0 J Jx g st' a W:=by
 obtain ⟨T,hqq,L,hC,hd,hT,hJ⟩:=h;obtain ⟨L',hC',hS⟩:=hw _ _ _ _ hC;refine ⟨T,hqq,L',hC',hd,hT,?_⟩;have:=EI (M':=Dr st'.tab L') (W':=W) H hJ ⟨rfl,rfl,rfl,Vh _,fun _ _ _=>rfl⟩ fun b hb=>.inl (Classical.byContradiction fun hn=>?_)
 .rw [vH] at this;exact this
 .obtain ⟨id,o,h1,h2⟩:=hb;have hge:=(hC'.lay.objs id o h1).ge h2;have hX:¬ Po T W b:=fun hx=>(hC'.lay.ex b hx).2 id o h1 h2;have hs:Sx (DS T0 W0 T W hqq) W st.tab L b:=⟨hge.2,⟨.inr hge.1,hX⟩,fun id2 o2 h3 h4=>hn ⟨id2,o2,h3,h4⟩⟩;exact (hS b hs).2.2 id o h1 h2
theorem IH (H:Gw P l xs J Jx):∀ (c:Code),gI c=true -> ∀ (Q:Exit -> IG -> aj -> Prop) (g:IG) (st:aj) (a:Act) (W:World),Mc T0 W0 J Jx g st a W -> el P l xs c Q g st -> c.wpIn Fence.wide 0 P (QI T0 W0 J Jx Q) a W:=by
 intro c
 induction c with
 | skip=>exact fun _ Q g st a W h hp=>wpIn_skip ⟨g,st,hp,h⟩
 | region id ops draw=>
  intro hf Q g st a W h hp
  cases draw with
  | false=>
   simp only [gI,Xa,VX,W6] at hf;exact wpIn_region_list (wX H (fun g st a W h1 h2=>⟨g,st,h1,h2⟩) _ g st a W hf h hp)
  | true=>cases hf
 | seq x y ihx ihy=>
  intro hf Q g st a W h hp;simp only [gI,VB] at hf;unfold el at hp;refine wpIn_seq (wpIn_mono (ihx hf.1 _ g st a W h hp) (fun e a' W' ⟨g',st',h1,h2⟩=>?_))
  cases e with
  | normal=>exact ihy hf.2 Q g' st' a' W' h2 h1
  | _=>exact ⟨g',st',h1,h2⟩
 | cond c x y ihx ihy=>
  intro hf Q g st a W h hp;simp only [gI,VB] at hf;unfold el ow at hp;split at hp
  .rename_i b hb;obtain ⟨T,hqq,L,hC,_⟩:=id h;have hv:=(am hC c).1;rw [hb] at hv;have hv:=hv.c_inv;cases b
   .exact wpIn_cond_false hv (ihy hf.2 Q g st a W h hp)
   .exact wpIn_cond_true hv (ihx hf.1 Q g st a W h hp)
  .exact hp.elim
 | block id x ih=>
  intro hf Q g st a W h hp;simp only [gI] at hf;unfold el at hp;refine wpIn_block (wpIn_mono (ih hf _ g st a W h hp) (fun e a' W' ⟨g',st',h1,h2⟩=>?_))
  cases e with
  | exit id'=>
   simp only [kr,Exit.inBlock] at h1 ⊢;split
   .rename_i e;rw [Vo e] at h1;exact ⟨g',st',h1,h2⟩
   .rename_i e;rw [Vj e] at h1;exact ⟨g',st',h1,h2⟩
  | _=>exact ⟨g',st',h1,h2⟩
 | loop x ih=>
  intro hf Q g st a W h hp;simp only [gI] at hf;unfold el at hp;obtain ⟨I,μ,⟨st0,hw0,hI⟩,hr⟩:=hp
  let p:Act -> World -> Nat -> Prop:=fun a W n=>∃ g st,I g st /\ Mc T0 W0 J Jx g st a W /\ μ g st=n
  refine wpIn_loop (fun a W=>∃ n,p a W n) (fun a W=>lE (p a W)) ⟨_,g,st0,hI,Aq H h hw0,rfl⟩ fun a W hpa=>?_;obtain ⟨⟨g,st,h1,h2,h3⟩,_⟩:=gK hpa;refine wpIn_mono (ih hf _ g st a W h2 (hr g st h1)) (fun e a' W' ⟨g',st',h4,h5⟩=>?_)
  cases e with
  | normal=>
   obtain ⟨st'',hw,hI'',hlt⟩:=h4;have hpn:p a' W' (μ g' st''):=⟨g',st'',hI'',Aq H h5 hw,rfl⟩;refine ⟨⟨_,hpn⟩,?_⟩;have:=(gK ⟨_,hpn⟩).2 _ hpn;show lE (p a' W')<lE (p a W);omega
  | _=>exact ⟨g',st',h4,h5⟩
 | exit id=>exact fun _ Q g st a W h hp=>wpIn_exit ⟨g,st,hp,h⟩
 | ret=>exact fun _ Q g st a W h hp=>wpIn_ret ⟨g,st,hp,h⟩
 | _=>exact fun hf=>(by cases hf)
def UB (xs:List (List AV)):Exit -> IG -> aj -> Prop
 | .normal,g,_=>(g.2=true -> g.1=xs) /\ g.1 <+: xs
 | .ret,g,_=>(g.2=true -> g.1=xs) /\ g.1 <+: xs
 | _,_,_=>False
end
theorem FN {S:Nat -> Prop} {w:World} {vs:Array Value} {args:List AV} {n:Nat} {hqq:tJ S w S} (hS:∀ b,S b -> b<w.heap.size) (hvs:vs.size=args.length) (hn:args.length<=n) (hv:∀ (j:Nat) (v:Value) (av:AV),vs[j]? = some v -> args[j]? = some av -> RT w S v av) :
  aH (DS S w S w hqq) { tmps:=vs ++ Array.replicate (n - vs.size) undef,defers:=[] } w ⟨n,dg 0 args,[],0⟩ (fun _=>undef):=by
 have hL:je (DS S w S w hqq) w [] (fun _=>undef):=⟨j0 (Below.refl _ _),fun id o h=>(by cases h),fun id id' o o' g h=>(by cases h),fun b hb=>⟨hb.1,fun id o h=>(by cases h)⟩⟩;refine ⟨hL,?_,jR.nil _ _ _,fun id o h=>(by cases h),fun t=>?_⟩
 .simp;omega
 have e:(⟨n,dg 0 args,[],0⟩:aj).get t=args.getD t .any:=by
  show (if t<n then bb (dg 0 args) t else .any)=_;rw [jo];split
  .simp
  .simp [List.getD,Vt (show args.length<=t by omega)]
 rw [e];by_cases ht:t<args.length
 .have ht':t<vs.size:=by omega
  have e2:(vs ++ Array.replicate (n - vs.size) undef).getD t undef=vs[t]:=by
   rw [V9,V5 ht',Vl ht'];rfl
  have e3:args.getD t .any=args[t]:=by simp [List.getD,ht]
  rw [e2,e3];have:=hv t _ _ (Vl ht') (p0 ht);exact ⟨.tree (this.mono (fun _ _=>rfl) fun b hb=>⟨hS b hb,⟨.inl hb,fun hx=>hx.2 hb⟩,fun id o h=>by cases h⟩),this.lt 0⟩
 .have e3:args.getD t .any=.any:=by simp [List.getD,Vt (Nat.le_of_not_lt ht)]
  rw [e3];exact ⟨.tree (.any _),trivial⟩
theorem wQ {P : Program} {f : FuncId} {fn : Func} {c : Code} (hf : P.funcs[f]? = some fn) (hb : fn.body = some c) (hname : (fn.name == "runtime.NumGoroutine") = false) {caps : List AV} {xs : List (List AV)} {n : Nat} (hnt : fn.ntmps = n) (hrs : fn.results = #[]) (hn : Nat.ble (caps.length + 1) n = true)
  (hc:gI c=true) (ht:aR caps) (h:∀ l,el P l xs c (UB xs) ([],true) ⟨n,dg 0 (.c (.func (.yield l) #[] #[]) :: caps),[],0⟩):PS P f caps xs:=by
 have hn:=WX hn;subst hnt;refine ⟨fb hf hb hname,fun l T0 lb W0 J Jx hlb hok0 hcap hlt hkeep hkeepx hround hJ0=>?_⟩;have hqq:tJ T0 W0 T0:=⟨hok0.amb,hok0.tab,hok0.tab⟩;refine callsIn_of_wp hf hb trivial ?_ rfl;have H:Gw P l xs J Jx:=⟨hkeep,hkeepx,hround⟩
 have hC:aH (DS T0 W0 T0 W0 hqq) { tmps:=(#[.func (.yield l) #[] #[]] ++ lb) ++ Array.replicate (fn.ntmps - (#[Value.func (.yield l) #[] #[]] ++ lb).size) undef,defers:=[] } W0 ⟨fn.ntmps,dg 0 (.c (.func (.yield l) #[] #[]) :: caps),[],0⟩ (fun _=>undef):=by
  refine FN (args:=.c (.func (.yield l) #[] #[]) :: caps) ?_ ?_ (by simpa using hn) fun j v av h1 h2=>?_
  .exact hlt _ _ _ _ hJ0
  .simp;omega
  .cases j with
   | zero=>
    rw [V5 (by simp)] at h1;simp at h1 h2;subst h1;subst h2;exact .c _
   | succ j=>
    refine hcap j v av ?_ (by simpa using h2);rw [Xg (by simp)] at h1;simpa using h1
 have hJ1:J [] T0 (Dr (⟨fn.ntmps,dg 0 (.c (.func (.yield l) #[] #[]) :: caps),[],0⟩:aj).tab fun _=>undef) W0:=by
  have:=hkeep [] T0 _ (Dr [] fun _=>undef) W0 W0 hJ0 ⟨rfl,rfl,rfl,Vh _,fun _ _ _=>rfl⟩ fun b ⟨id,o,h1,_⟩=>(by cases h1);rw [vH] at this;exact this
 refine wpIn_mono (IH H c hc _ ([],true) _ _ _ ⟨T0,hqq,_,hC,rfl,hlt _ _ _ _ hJ0,hJ1⟩ (h l)) fun e a W' ⟨g,st,hq,T,hq3,L,hC',hd,_,hJ⟩=>?_
 have fin:((g.2=true -> g.1=xs) /\ g.1 <+: xs) -> a.defers=[] /\ ∃ v,(results fn a.tmps).run P W'=.ok v W' /\ (∃ u,(Ending.returned v:Ending)=.returned u) /\ ((∃ T M,J xs T M W') \/ ∃ pre T M,pre <+: xs /\ Jx pre T M W'):=fun ⟨h1,h2⟩=>by
  refine ⟨hd,.tuple #[],by simp [results,hrs],⟨_,rfl⟩,?_⟩;obtain ⟨pre,b⟩:=g
  cases b with
  | true=>
   obtain rfl:pre=xs:=h1 rfl;exact .inl ⟨T,_,hJ⟩
  | false=>exact .inr ⟨pre,T,_,h2,hJ⟩
 cases e with
 | normal=>exact fin hq
 | ret=>exact fin hq
 | _=>exact hq.elim
end
section
mutual
def AV.rpz (id:Nat) (cells:List AV):AV -> AV
 | .op id' i j=>if id'=id then (if i=0 then .rp (cells.drop j) else .any) else .op id' i j
 | .osl id'=>if id'=id then .any else .osl id'
 | .agg cs=>.agg (AV.rpzL id cells cs)
 | .tup cs=>.tup (AV.rpzL id cells cs)
 | .fn f cs=>.fn f (AV.rpzL id cells cs)
 | .bfn f cs=>.bfn f (AV.rpzL id cells cs)
 | .any=>.any
 | .c v=>.c v
 | .sl sz rows=>.sl sz rows
 | .rp cs=>.rp cs
def AV.rpzL (id:Nat) (cells:List AV):List AV -> List AV
 | []=>[]
 | a :: l=>a.rpz id cells :: AV.rpzL id cells l
end
theorem gt (id:Nat) (cells:List AV):∀ l:List AV,AV.rpzL id cells l=l.map (·.rpz id cells)
 | []=>rfl
 | a :: l=>by rw [AV.rpzL,gt id cells l];rfl
def ny (id:Nat) (cells:List AV):List (Nat × AV) -> List (Nat × AV)
 | []=>[]
 | (t,av) :: l=>(t,av.rpz id cells) :: ny id cells l
theorem t9 (id:Nat) (cells:List AV):∀ (l:List (Nat × AV)) (t:Nat),bb (ny id cells l) t=(bb l t).rpz id cells
 | [],t=>rfl
 | (k,av) :: l,t=>by
  unfold ny bb;split
  .rfl
  .exact t9 id cells l t
def DY:aD -> Prop
 | .box _ cells=>aR cells
 | .row _ _ _=>True
 | .map _=>True
 | .nest _ _ _=>False
 | .ghost _ _=>False
def mH (id:Nat):af -> Prop
 | []=>True
 | (k,some o) :: l=>(k=id \/ DY o) /\ mH id l
 | (_,none) :: l=>mH id l
theorem lV {id:Nat}:∀ {l:af} {k:Nat} {o:aD},mH id l -> l.get k=some o -> k=id \/ DY o
 | [],k,o,_,h=>by cases h
 | (k',some oo) :: l,k,o,ht,h=>by
  rw [af.gc] at h;split at h
  .rename_i e;cases h;rw [e];exact ht.1
  .exact lV ht.2 h
 | (k',none) :: l,k,o,ht,h=>by
  rw [af.gc] at h;split at h
  .cases h
  .exact lV (l:=l) ht h
theorem Ti {w:World} {S:Nat -> Prop} {x:Value} {av:AV} (h:RT w S x av) (id:Nat) (cells:List AV):av.rpz id cells=av:=by
 induction h with
 | agg xs cs hn hr ih=>
  simp only [AV.rpz,gt,AV.agg.injEq];apply V3;intro j;rw [Ve]
  cases hj:cs[j]? with
  | none=>rfl
  | some av=>
   have hlt:j<xs.size:=by rw [hn];exact (Vf.1 hj).1
   simp [ih j _ av (Vl hlt) hj]
 | tup xs cs hn hr ih=>
  simp only [AV.rpz,gt,AV.tup.injEq];apply V3;intro j;rw [Ve]
  cases hj:cs[j]? with
  | none=>rfl
  | some av=>
   have hlt:j<xs.size:=by rw [hn];exact (Vf.1 hj).1
   simp [ih j _ av (Vl hlt) hj]
 | fn f xs cs hn hr ih=>
  simp only [AV.rpz,gt,AV.fn.injEq];refine ⟨trivial,?_⟩;apply V3;intro j;rw [Ve]
  cases hj:cs[j]? with
  | none=>rfl
  | some av=>
   have hlt:j<xs.size:=by rw [hn];exact (Vf.1 hj).1
   simp [ih j _ av (Vl hlt) hj]
 | bfn f xs cs hn hr ih=>
  simp only [AV.rpz,gt,AV.bfn.injEq];refine ⟨trivial,?_⟩;apply V3;intro j;rw [Ve]
  cases hj:cs[j]? with
  | none=>rfl
  | some av=>
   have hlt:j<xs.size:=by rw [hn];exact (Vf.1 hj).1
   simp [ih j _ av (Vl hlt) hj]
 | _=>rfl
theorem Ta {id nx:Nat} {cells:List AV}:∀ {av:AV},av.lt nx -> (av.rpz id cells).lt nx:=by
 intro av
 induction av using AV.rec (motive_2:=fun _=>True) (motive_3:=fun l=>AV.ltL nx l -> AV.ltL nx (AV.rpzL id cells l))<;>simp_all [AV.lt,AV.ltL,AV.rpz,AV.rpzL]
 .split<;>simp_all [AV.lt]
 .split
  .split<;>simp [AV.lt]
  .simp_all [AV.lt]
theorem HZ {n nx:Nat} {env:List (Nat × AV)} {tab:af} (id:Nat) {ty:TypeId} {cells:List AV} (hid:tab.get id=some (.box ty cells)) (ht:kN cells) (hot:mH id tab):dH ⟨n,env,tab,nx⟩ ⟨n,ny id cells env,(id,none) :: tab,nx⟩:=by
 intro cx a w L h
 have hget:∀ k o,af.get ((id,none) :: tab) k=some o -> k ≠ id /\ tab.get k=some o:=fun k o hk=>by
  rw [af.gc] at hk;split at hk
  .cases hk
  .exact ⟨by assumption,hk⟩
 have hS:∀ b,Sx cx w tab L b -> Sx cx w ((id,none) :: tab) L b:=fun b hb=>⟨hb.1,hb.2.1,fun k o hk=>hb.2.2 k o (hget k o hk).2⟩
 have hK:∀ k p,Kx ((id,none) :: tab) L k=some p -> k ≠ id /\ Kx tab L k=some p:=fun k p hk=>by
  unfold Kx at *
  cases ho:af.get ((id,none) :: tab) k with
  | none=>simp [ho] at hk
  | some o=>
   obtain ⟨h1,h2⟩:=hget k o ho;refine ⟨h1,?_⟩;rw [h2];simpa [ho] using hk
 obtain ⟨g,cs,hL,hbg,hheap,hcs,hx⟩:=h.lay.objs id _ hid;have hg:aO (L id)=some g:=by rw [hL];rfl
 have hSg:Sx cx w ((id,none) :: tab) L g:=⟨(VK.1 hheap).1,⟨.inr hbg,fun hX=>(h.lay.ex g hX).2 id _ hid hg⟩,fun k o hk hkg=>by
  obtain ⟨h1,h2⟩:=hget k o hk;exact h1 (h.lay.sep k id o _ g h2 hid hkg hg)⟩
 have conv:∀ x av,bQ cx w tab L x av -> bQ cx w ((id,none) :: tab) L x (av.rpz id cells):=fun x av hr=>by
  induction hr with
  | tree h0=>
   rw [Ti h0];exact .tree (h0.mono (fun _ _=>rfl) hS)
  | osl x id' h0=>
   unfold AV.rpz;split
   .exact .tree (.any _)
   .exact .osl x id' fun sz v e=>h0 sz v (hK id' _ e).2
  | op x id' i j h0=>
   unfold AV.rpz;split
   .rename_i e;subst e;split
    .rename_i e;subst e;obtain ⟨g',hg',rfl⟩:=h0 _ _ (cU hid);rw [hg] at hg';cases hg';rw [Xf,WT];refine .tree (.rp g j _ (fun k=>cs[j+k]?.getD undef) hSg (fun k av hk=>?_) (fun k av hk=>?_))
     .rw [VV] at hk;have hlt:j+k<cs.size:=by rw [hcs];exact (Vf.1 hk).1
      rw [cell_of_row w g (j+k) cs ty (0,0) hheap,Vl hlt];rfl
     .rw [VV] at hk;have hlt:j+k<cs.size:=by rw [hcs];exact (Vf.1 hk).1
      rw [Vl hlt,VG];exact (tX (hx (j+k) _ av (Vl hlt) hk).1 (ll ht (Os hk))).mono (fun _ _=>rfl) hS
    .exact .tree (.any _)
   .exact .op x id' i j fun sz v e=>h0 sz v (hK id' _ e).2
  | agg xs cs' hn hr ih=>
   simp only [AV.rpz,gt];refine .agg xs _ (by simpa using hn) fun j x av h1 h2=>?_;rw [Ve] at h2
   cases hj:cs'[j]? with
   | none=>simp [hj] at h2
   | some av'=>
    simp [hj] at h2;subst h2;exact ih j x av' h1 hj
  | tup xs cs' hn hr ih=>
   simp only [AV.rpz,gt];refine .tup xs _ (by simpa using hn) fun j x av h1 h2=>?_;rw [Ve] at h2
   cases hj:cs'[j]? with
   | none=>simp [hj] at h2
   | some av'=>
    simp [hj] at h2;subst h2;exact ih j x av' h1 hj
  | fn f xs cs' hn hr ih=>
   simp only [AV.rpz,gt];refine .fn f xs _ (by simpa using hn) fun j x av h1 h2=>?_;rw [Ve] at h2
   cases hj:cs'[j]? with
   | none=>simp [hj] at h2
   | some av'=>
    simp [hj] at h2;subst h2;exact ih j x av' h1 hj
  | bfn f xs cs' hn hr ih=>
   simp only [AV.rpz,gt];refine .bfn f xs _ (by simpa using hn) fun j x av h1 h2=>?_;rw [Ve] at h2
   cases hj:cs'[j]? with
   | none=>simp [hj] at h2
   | some av'=>
    simp [hj] at h2;subst h2;exact ih j x av' h1 hj
 refine ⟨L,⟨⟨h.lay.below,fun k o hk=>?_,fun k k' o o' g' h1 h2=>h.lay.sep k k' o o' g' (hget k o h1).2 (hget k' o' h2).2,fun b hb=>⟨(h.lay.ex b hb).1,fun k o hk=>(h.lay.ex b hb).2 k o (hget k o hk).2⟩⟩,h.size,h.defers.mono (fun _ _=>rfl) hS,fun k o hk=>h.young k o (hget k o hk).2,fun t=>?_⟩,hS⟩
 .obtain ⟨h1,h2⟩:=hget k o hk;have ho:=h.lay.objs k o h2;have htr:=(lV hot h2).resolve_left h1
  cases o with
  | box t cells'=>
   obtain ⟨g',cs',h3,h4,h5,h6,h7⟩:=ho;exact ⟨g',cs',h3,h4,h5,h6,fun j x av h8 h9=>⟨.tree ((dS (h7 j x av h8 h9).1 (dT.1 htr av (Os h9))).mono (fun _ _=>rfl) hS),(h7 j x av h8 h9).2⟩⟩
  | row e sz rows=>
   obtain ⟨h3,xs,h4,h5,h6⟩:=ho;refine ⟨h3,xs,h4,h5,fun i j row av h7 h8=>?_⟩;obtain ⟨x,hx,hr⟩:=h6 i j row av h7 h8;exact ⟨x,hx,hr.mono (fun _ _=>rfl) hS⟩
  | map ents=>exact ho
  | nest=>exact htr.elim
  | ghost vs env=>exact htr.elim
 .have e1:(⟨n,ny id cells env,(id,none) :: tab,nx⟩:aj).get t=((⟨n,env,tab,nx⟩:aj).get t).rpz id cells:=by
   unfold aj.get;simp only;split
   .exact t9 ..
   .simp [AV.rpz]
  rw [e1];exact ⟨conv _ _ (h.env t).1,Ta (h.env t).2⟩
theorem vQ:∀ {l:List AV},aR l -> kN l
 | [],_=>trivial
 | a :: l,h=>⟨by
   have:=h.1;cases a<;>first|exact this|exact this.elim,vQ h.2⟩
theorem Nx {n nx:Nat} {env:List (Nat × AV)} {tab:af} (id:Nat) {ty:TypeId} {cells:List AV} (hid:tab.get id=some (.box ty cells)) (ht:aR cells) (hot:mH id tab):dH ⟨n,env,tab,nx⟩ ⟨n,ny id cells env,(id,none) :: tab,nx⟩:=HZ id hid (vQ ht) hot
theorem cu {st:aj} (id j e sz:Nat) {t:TypeId} {cells:List AV} (hid:st.tab.get id=some (.box t cells)) (hj:cells[j]? = some (.c (.slice none 0 0))) :
  dH st ⟨st.n,st.env,(id,some (.box t (cells.set j (.osl st.next)))) :: (st.next,some (.row e sz [])) :: st.tab,st.next+1⟩:=by
 intro cx a w L h;have hc1:=kE (ob:=.row e sz []) (v:=.slice none 0 0) (x:=.slice none 0 0) (av:=.any) h (Below.refl _ _) (fun g hg=>by simp [aO] at hg) (fun hext=>⟨by simp,[],ku ..,by simp,by simp⟩) trivial (fun hext=>.tree (.any _)) trivial none;have hlt:=(h.young id _ hid).1;have hget1:af.get ((st.next,some (.row e sz [])) :: st.tab) id=some (.box t cells):=by rw [af.gc,Vj (by omega)];exact hid
 generalize hL1:br L st.next (.slice none 0 0)=L1 at hc1;generalize ht1:(st.next,some (aD.row e sz [])) :: st.tab=tab1 at hc1 hget1 ⊢;have hc1:aH cx a w ⟨st.n,st.env,tab1,st.next+1⟩ L1:=hc1;have hnew:af.get tab1 st.next=some (.row e sz []):=by rw [<- ht1,af.gc,Vo rfl]
 have hLn:L1 st.next=.slice none 0 0:=by rw [<- hL1];simp [br]
 have hget:∀ k o,af.get ((id,some (.box t (cells.set j (.osl st.next)))) :: tab1) k=some o -> ∃ o',af.get tab1 k=some o' /\ o.sz=o'.sz:=fun k o hk=>by
  rw [af.gc] at hk;split at hk
  .rename_i e1;cases hk;exact ⟨_,by rw [e1];exact hget1,by simp [aD.sz]⟩
  .exact ⟨o,hk,rfl⟩
 have hS1:∀ b,Sx cx w tab1 L1 b -> Sx cx w ((id,some (.box t (cells.set j (.osl st.next)))) :: tab1) L1 b:=fun b hb=>⟨hb.1,hb.2.1,fun k o hk=>by
  obtain ⟨o',h1,_⟩:=hget k o hk;exact hb.2.2 k o' h1⟩
 have hK:∀ k p,Kx ((id,some (.box t (cells.set j (.osl st.next)))) :: tab1) L1 k=some p -> Kx tab1 L1 k=some p:=fun k p hk=>by
  unfold Kx at *
  cases ho:af.get ((id,some (.box t (cells.set j (.osl st.next)))) :: tab1) k with
  | none=>simp [ho] at hk
  | some o=>
   obtain ⟨o',h1,h2⟩:=hget k o ho;rw [h1];simpa [ho,h2] using hk
 have hrv:∀ {x av},bQ cx w tab1 L1 x av -> av.lt (st.next+1) -> bQ cx w ((id,some (.box t (cells.set j (.osl st.next)))) :: tab1) L1 x av:=fun hr hl=>hr.mono hl (fun _ _=>rfl) hS1 fun k p _ hk=>hK k p hk
 refine ⟨L1,⟨⟨hc1.lay.below,fun k o hk=>?_,fun k k' o o' g h1 h2=>?_,fun b hb=>⟨(hc1.lay.ex b hb).1,fun k o hk=>by
  obtain ⟨o',h1,_⟩:=hget k o hk;exact (hc1.lay.ex b hb).2 k o' h1⟩⟩,hc1.size,hc1.defers.mono (fun _ _=>rfl) hS1,fun k o hk=>?_,fun t=>⟨hrv (hc1.env t).1 (hc1.env t).2,(hc1.env t).2⟩⟩,fun b hb=>hS1 b ?_⟩
 .rw [af.gc] at hk;split at hk
  .rename_i e1;cases hk;subst e1;obtain ⟨g,cs,h1,h2,h3,h4,h5⟩:=hc1.lay.objs _ _ hget1;refine ⟨g,cs,h1,h2,h3,by simpa using h4,fun i x av h6 h7=>?_⟩;rw [WJ] at h7;split at h7
   .rename_i e2;subst e2;split at h7
    .cases h7;have h8:=h5 j x _ h6 hj;refine ⟨.osl x _ fun sz' v hk=>?_,h8.2⟩;have hk:=hK _ _ hk;unfold Kx at hk;rw [hnew] at hk;simp at hk;rw [h8.1.c_inv,<- hk.2,hLn]
    .cases h7
   .have h8:=h5 i x av h6 h7;exact ⟨hrv h8.1 (ak.1 (hc1.young _ _ hget1).2 _ (Os h7)),h8.2⟩
  .have ho:=hc1.lay.objs k o hk;have hy:=(hc1.young k o hk).2
   cases o with
   | box t' cells'=>
    obtain ⟨g,cs,h1,h2,h3,h4,h5⟩:=ho;exact ⟨g,cs,h1,h2,h3,h4,fun i x av h6 h7=>⟨hrv (h5 i x av h6 h7).1 (ak.1 hy _ (Os h7)),(h5 i x av h6 h7).2⟩⟩
   | row e' sz' rows'=>
    obtain ⟨h1,xs,h2,h3,h4⟩:=ho;refine ⟨h1,xs,h2,h3,fun i j row av h5 h6=>?_⟩;obtain ⟨x,hx,hr⟩:=h4 i j row av h5 h6;exact ⟨x,hx,hr.mono (fun _ _=>rfl) hS1⟩
   | map ents=>exact ho
   | nest e' sz' rows'=>
    obtain ⟨h1,xs,h2,h3,h4⟩:=ho;refine ⟨h1,xs,h2,h3,fun i j row av h5 h6=>?_⟩;obtain ⟨x,hx,hr⟩:=h4 i j row av h5 h6;exact ⟨x,hx,hrv hr (ak.1 (hy row (Os h5)) _ (Os h6))⟩
   | ghost vs env=>exact ⟨ho.1,fun t ht=>hrv (ho.2 t ht) (fY hy t)⟩
 .obtain ⟨o1,h3,_⟩:=hget k o h1;obtain ⟨o2,h4,_⟩:=hget k' o' h2;exact hc1.lay.sep k k' o1 o2 g h3 h4
 .rw [af.gc] at hk;split at hk
  .rename_i e1;cases hk;have hy:=hc1.young id _ hget1;refine ⟨by rw [e1];exact hy.1,ak.2 fun x hx=>?_⟩;rcases Wk hx with hx|rfl
   .exact ak.1 hy.2 x hx
   .exact Wb _
  .exact hc1.young k o hk
 .refine ⟨hb.1,hb.2.1,fun k o hk hg=>?_⟩;rw [<- ht1,af.gc] at hk;rw [<- hL1] at hg;unfold br at hg;split at hk
  .rename_i e1;rw [Vo e1] at hg;simp [aO] at hg
  .rename_i e1;rw [Vj e1] at hg;exact hb.2.2 k o hk hg
def TA (P:Program) (rs:List ResultVar) (Post:cS -> Prop) (e:Exit) (st:aj):Prop:=Mp (yD P rs Post e) st
theorem wJ {P : Program} (hm : P.follows .mixedOrders = true) {f : FuncId} {fn : Func} {c : Code} (hf : P.funcs[f]? = some fn) (hb : fn.body = some c) (hname : (fn.name == "runtime.NumGoroutine") = false) {args : List AV} {Post : cS → Prop} {n : Nat} (hnt : fn.ntmps = n) {rs : List ResultVar} (hrs : fn.results = rs.toArray) (hn : Nat.ble args.length n = true)
  (h:bD P c (TA P rs Post) ⟨n,dg 0 args,[],0⟩):dQ P f args Post:=
 nt hf hb hname hnt hrs hn fun cx a w L hc=>Code.wp_mono (fun e a w ⟨st,L,⟨st',hw,h1⟩,h2⟩=>(hw _ _ _ _ h2).elim fun L' h3=>⟨st',L',h1,h3.1⟩) (pq hm c _ a w _ L hc h)
theorem Be {I:List (List AV) -> aj -> Prop} {Ix:Code -> List (List AV) -> aj -> Prop} {pre:List (List AV)} {st1 st':aj}:OQ I Ix pre st1 .normal st'=Mp (I pre) ⟨st1.n,st1.env,st'.tab,st'.next⟩:=rfl
theorem JH {I:List (List AV) -> aj -> Prop} {Ix:Code -> List (List AV) -> aj -> Prop} {pre:List (List AV)} {st1 st':aj}:OQ I Ix pre st1 .ret st'=Mp (Ix .ret pre) ⟨st1.n,st1.env,st'.tab,st'.next⟩:=rfl
theorem C1 {st:aj}:jU [] st=st:=rfl
theorem zA {p:Nat} {av:AV} {l:List (Nat × AV)} {st:aj}:jU ((p,av) :: l) st=jU l (st.put (some p) av):=rfl
def Tr:=(And.intro (And.intro @Be (And.intro @JH @C1)) (And.intro @zA (And.intro @List.zip_cons_cons.{0,0} @List.zip_nil_left.{0,0})))
theorem U4 {Post:cS -> Prop} {st:aj} {r av:AV} (h:Post ⟨r,[],0⟩) (hl:r.lt 0) (hr:r.ren []=av):∃ R,Post R /\ R.Ok /\ d9 R st av:=⟨_,h,⟨fun id o h=>(by cases h),hl⟩,⟨[],List.nodup_nil,hr,trivial⟩⟩
end
end
section
section
def gk (E U:Nat):List (List AV):=(List.range E).flatMap fun (e:Nat)=>(List.range U).map fun (u:Nat)=>[eI (e:Int),eI (u:Int)]
theorem lX (e U:Nat):gk (e+1) U=gk e U ++ (List.range U).map fun (u:Nat)=>[eI (e:Int),eI (u:Int)]:=by
 unfold gk;rw [Wn,Wx];simp
theorem BR {E U:Nat}:∀ {e:Nat},e<=E -> gk e U <+: gk E U:=by
 intro e h;obtain ⟨k,rfl⟩:∃ k,E=e+k:=⟨E - e,by omega⟩;clear h
 induction k with
 | zero=>exact XN
 | succ k ih=>
  rw [<- Wv,lX];exact ih.trans (XI ..)
theorem Aa {E U e u:Nat} (he:e<E) (hu:u<=U):gk e U ++ ((List.range u).map fun (u:Nat)=>[eI (e:Int),eI (u:Int)]) <+: gk E U:=by
 refine List.IsPrefix.trans ?_ (BR (e:=e+1) he);rw [lX];refine List.prefix_append_right_inj _ |>.2 ?_;refine List.IsPrefix.map _ ?_;rw [List.prefix_iff_eq_take];simp [List.take_range,Nat.min_eq_left hu]
theorem rl (e u U:Nat):(gk e U ++ ((List.range u).map fun (u:Nat)=>[eI (e:Int),eI (u:Int)])) ++ [[eI (e:Int),eI (u:Int)]]=gk e U ++ ((List.range (u+1)).map fun (u:Nat)=>[eI (e:Int),eI (u:Int)]):=by
 rw [Wn,VI,VZ];rfl
theorem gU {E U:Nat} {x:List AV}:x ∈ gk E U ↔ ∃ e u:Nat,e<E /\ u<U /\ x=[eI (e:Int),eI (u:Int)]:=by
 unfold gk;simp only [V7,WM,Vx];constructor
 .rintro ⟨e,he,u,hu,rfl⟩;exact ⟨e,u,he,hu,rfl⟩
 .rintro ⟨e,u,he,hu,rfl⟩;exact ⟨e,he,u,hu,rfl⟩
theorem zY (m:bl) (hl:m.events.length<=1000000) (hl2:m.users.length<=1000000):PS Tryz.prog 181 [.rp (aQ m)] (gk m.events.length m.users.length):=by
 refine wQ Tryz.func181 rfl (by decide) Tryz.ntmps181 Tryz.results181 rfl (by kernel_rfl) (by simp [aR,aY]) fun l=>?_
 repeat' first|simp -implicitDefEqProofs (maxSteps:=5000000) only [uy,↓reduceIte,reduceCtorEq,Nat.reduceLT,Nat.reduceEqDiff,Nat.reduceAdd,Nat.reduceMul,Nat.reduceSub,Nat.reduceLeDiff,Nat.reduceBEq,UH]|refine sp ?_ ?_<;>intro _
 refine zK (fun g st=>∃ e:Nat,e<=m.events.length /\ g=(gk e m.users.length,true) /\ st=⟨24,[(0,.c (.func (.yield l) #[] #[])),(1,.rp (aQ m)),(7,eI (m.events.length:Int)),(8,eI (e:Int))],[],0⟩) (fun g st=>m.events.length - ap st 8) ⟨_,wC,0,Vd _,rfl,rfl⟩ ?_;rintro _ _ ⟨e,he,rfl,rfl⟩;by_cases he2:e<m.events.length
 .repeat' first|simp -implicitDefEqProofs (maxSteps:=5000000) only [uy,↓reduceIte,reduceCtorEq,Nat.reduceLT,Nat.reduceEqDiff,Nat.reduceAdd,Nat.reduceMul,Nat.reduceSub,Nat.reduceLeDiff,Nat.reduceBEq,UH,he2]|refine sp ?_ ?_<;>intro _
  refine zK (fun g st=>∃ u:Nat,u<=m.users.length /\ g=(gk e m.users.length ++ ((List.range u).map fun (u:Nat)=>[eI (e:Int),eI (u:Int)]),true) /\ st=⟨24,[(0,.c (.func (.yield l) #[] #[])),(1,.rp (aQ m)),(3,eI (e:Int)),(7,eI (m.events.length:Int)),(8,eI (e:Int)),(13,eI (m.users.length:Int)),(14,eI (u:Int))],[],0⟩) (fun g st=>m.users.length - ap st 14) ⟨_,wC,0,Vd _,by simp,rfl⟩ ?_;rintro _ _ ⟨u,hu,rfl,rfl⟩;by_cases hu2:u<m.users.length
  .have hp:=Aa (u:=u+1) he2 hu2;rw [<- rl] at hp
   repeat' first|simp -implicitDefEqProofs (maxSteps:=5000000) only [uy,↓reduceIte,reduceCtorEq,Nat.reduceLT,Nat.reduceEqDiff,Nat.reduceAdd,Nat.reduceMul,Nat.reduceSub,Nat.reduceLeDiff,Nat.reduceBEq,UH,hu2,Dd,yj,Ey,aR,aY,hp]|refine sp ?_ ?_<;>intro _
   refine ⟨?_,by simp,hp⟩;exact Es wC ⟨u+1,by omega,by rw [rl],rfl⟩ (by simp only [ap,iz,aj.get,bb,aj.put,↓reduceIte,reduceCtorEq,Nat.reduceLT,Nat.reduceEqDiff,Nat.reduceAdd,Nat.reduceLeDiff,eq_self,implies_true];omega)
  .obtain rfl:u=m.users.length:=by omega
   repeat' first|simp -implicitDefEqProofs (maxSteps:=5000000) only [uy,↓reduceIte,reduceCtorEq,Nat.reduceLT,Nat.reduceEqDiff,Nat.reduceAdd,Nat.reduceMul,Nat.reduceSub,Nat.reduceLeDiff,Nat.reduceBEq,UH,hu2]|refine sp ?_ ?_<;>intro _
   exact Es wC ⟨e+1,by omega,by rw [lX],rfl⟩ (by simp only [ap,iz,aj.get,bb,aj.put,↓reduceIte,reduceCtorEq,Nat.reduceLT,Nat.reduceEqDiff,Nat.reduceAdd,Nat.reduceLeDiff,eq_self,implies_true];omega)
 .obtain rfl:e=m.events.length:=by omega
  repeat' first|simp -implicitDefEqProofs (maxSteps:=5000000) only [uy,↓reduceIte,reduceCtorEq,Nat.reduceLT,Nat.reduceEqDiff,Nat.reduceAdd,Nat.reduceMul,Nat.reduceSub,Nat.reduceLeDiff,Nat.reduceBEq,UH,he2,UB]|refine sp ?_ ?_<;>intro _
  exact XN
theorem EF (m:bl):aw Tryz.prog 160 [.agg (aQ m)] ⟨.fn 181 [.rp (aQ m)],[],0⟩:=by
 refine wJ ag Tryz.func160 rfl (by decide) Tryz.ntmps160 Tryz.results160 rfl ?_
 repeat' first|refine go ?_|decide|refine sp ?_ ?_<;>intro _
 refine fJ ((wC:dH _ ⟨4,[(2,.fn 181 [.op 0 0 0])],[(0,some (.box 32 (aQ m)))],1⟩).trans (Nx 0 (ty:=32) (cells:=aQ m) (by simp [af.gc]) (by simp [aR,aY]) (by simp [mH]))) ?_;simp only [ny,AV.rpz,AV.rpzL,↓reduceIte,Xy]
 repeat' first|decide|refine go ?_
 exact U4 rfl (by simp [AV.lt,AV.ltL]) (by simp [AV.ren,AV.renL])
theorem Pk (m:bl) (s:St) (hl:m.events.length<=1000000) (hl2:m.users.length<=1000000) (hl3:m.miles.length<=1000000) (hl4:m.sods.length<=1000000):aw Tryz.prog 159 [.agg (aQ m),.agg (gh s)] (val (.bool (se m s))):=by
 refine aa ag Tryz.func159 rfl (by decide) Tryz.ntmps159 Tryz.results159 rfl (aI _) ?_
 repeat' first|refine gq ?_|decide|refine sp ?_ ?_<;>intro _|((with_reducible apply bJ (g:=160));exact (EF m);exact (ro))
 refine AU ag (fun pre st=>(∀ e u:Nat,[eI (e:Int),eI (u:Int)] ∈ pre -> dZ m s (e:Int) (u:Int)=false) /\ st=⟨16,[(2,.op 0 0 0),(3,.op 1 0 0),(4,.op 2 0 0)],[(0,some (.box 32 (aQ m))),(1,some (.box 132 (gh s))),(2,some (.box 4 [eB false]))],3⟩)
  (fun c pre st=>c=.ret /\ se m s=true /\ st=⟨16,[(4,.op 2 0 0)],[(2,some (.box 4 [eB true]))],3⟩) (by simp -implicitDefEqProofs (maxSteps:=5000000) only [uy,↓reduceIte,reduceCtorEq,Nat.reduceLT,Nat.reduceEqDiff,Nat.reduceAdd,Nat.reduceMul,Nat.reduceSub,Nat.reduceLeDiff,Nat.reduceBEq]) (by simp [aR,aY]) (zY m hl hl2) (fun x hx=>by obtain ⟨e,u,_,_,rfl⟩:=gU.1 hx;rfl) (by kernel_rfl) (by kernel_rfl) (fJ wC ⟨by simp,rfl⟩) ?_ ?_ ?_
 .rintro pre x _ hp ⟨hpre,rfl⟩;obtain ⟨e,u,he,hu,rfl⟩:=gU.1 (hp.subset (show x ∈ pre ++ [x] by simp))
  repeat' first|simp -implicitDefEqProofs (maxSteps:=5000000) only [uy,↓reduceIte,reduceCtorEq,Nat.reduceLT,Nat.reduceEqDiff,Nat.reduceAdd,Nat.reduceMul,Nat.reduceSub,Nat.reduceLeDiff,Nat.reduceBEq,Tr]|refine sp ?_ ?_<;>intro _|(with_reducible refine aA (by kernel_rfl) ?_)|((with_reducible first|apply ax (g:=180)|apply aL (g:=180));exact (vg m s (e:Int) (u:Int) (by omega) (by omega)))
  .rename_i hen;exact fJ wC ⟨(eu _ _).2 ⟨e,he,(eu _ _).2 ⟨u,hu,hen⟩⟩,rfl⟩
  .rename_i hen;refine fJ wC ⟨fun e' u' hm=>?_,rfl⟩;rcases Vs.1 hm with hm|hm
   .exact hpre e' u' hm
   .simp at hm;obtain ⟨h1,h2⟩:=hm;rw [h1,h2];exact hen
 .rintro _ ⟨hpre,rfl⟩
  repeat' first|simp -implicitDefEqProofs (maxSteps:=5000000) only [uy,↓reduceIte,reduceCtorEq,Nat.reduceLT,Nat.reduceEqDiff,Nat.reduceAdd,Nat.reduceMul,Nat.reduceSub,Nat.reduceLeDiff,Nat.reduceBEq,Tr]|refine sp ?_ ?_<;>intro _|(with_reducible refine aA (by kernel_rfl) ?_)
  symm;rw [Wi];intro ha;obtain ⟨e,he,ha⟩:=(eu _ _).1 ha;obtain ⟨u,hu,ha⟩:=(eu _ _).1 ha;rw [hpre e u (gU.2 ⟨e,u,he,hu,rfl⟩)] at ha;cases ha
 .rintro _ pre _ hp ⟨rfl,ha,rfl⟩
  repeat' first|simp -implicitDefEqProofs (maxSteps:=5000000) only [uy,↓reduceIte,reduceCtorEq,Nat.reduceLT,Nat.reduceEqDiff,Nat.reduceAdd,Nat.reduceMul,Nat.reduceSub,Nat.reduceLeDiff,Nat.reduceBEq,Tr]|refine sp ?_ ?_<;>intro _|(with_reducible refine aA (by kernel_rfl) ?_)
  exact ha.symm
end
section
theorem fZ (m:bl) (s:St) (hl:m.miles.length<=1000000) (hd:aF s.don):aw Tryz.prog 103 [.agg (aQ m),.agg (gh s)] (val (.bool (fa m s))):=by
 refine aa ag Tryz.func103 rfl (by decide) Tryz.ntmps103 Tryz.results103 rfl (aI _) ?_
 repeat' first|refine gq ?_|decide|refine sp ?_ ?_<;>intro _
 unfold fa;refine ae (fun st=>∃ k:Nat,k<=m.miles.length /\ fg (fV m s) k=false /\ st=⟨25,[(2,.op 0 0 0),(3,.op 1 0 0),(5,eI (k:Int))],[(0,some (.box 32 (aQ m))),(1,some (.box 132 (gh s)))],2⟩) (fun st=>m.miles.length - ap st 5) ⟨_,wC,0,Vd _,rfl,rfl⟩ ?_;rintro _ ⟨k,hk,hI,rfl⟩;by_cases hlt:k<m.miles.length
 .have eF:fV m s k=(m.miles[k].final && bq s.don (k:Int)):=by simp [fV,hlt]
  repeat' first|refine gq ?_|simp only [ab,hlt]|decide|refine sp ?_ ?_<;>intro _|((with_reducible first|apply ax (g:=101)|apply aL (g:=101));exact (dA _ _ hd))
  all_goals first
   | (symm;refine lZ hlt ?_;rw [eF];grind)
   | exact rI wC ⟨k+1,by omega,kb hI (by rw [eF];grind),rfl⟩
 .obtain rfl:k=m.miles.length:=by omega
  repeat' first|refine gf @hlt ?_|decide|refine sp ?_ ?_<;>intro _
  exact hI.symm
theorem nV (n most:Int):aw Tryz.prog 140 [eI n,eI most] (val (.bool (eV n most))):=by
 refine aa ag Tryz.func140 rfl (by decide) Tryz.ntmps140 Tryz.results140 rfl (aI _) ?_;unfold eV
 repeat' first|refine go ?_|decide|refine sp ?_ ?_<;>intro _
 all_goals grind
theorem yr (m:bl) (s:St) (event user:Int) (hl:m.miles.length<=1000000) (ho:aF s.opn) (hd:aF s.don) (hr:∀ p ∈ m.roles,aF p.2):aw Tryz.prog 141 [.agg (aQ m),.agg (gh s),eI event,eI user] (val (.bool (ir m s event user))):=by
 refine aa ag Tryz.func141 rfl (by decide) Tryz.ntmps141 Tryz.results141 rfl (aI _) ?_;by_cases h:0<=event /\ event<(m.events.length:Int)
 .obtain ⟨k,rfl⟩:∃ k:Nat,event=(k:Int):=⟨event.toNat,by omega⟩;have hk:k<m.events.length:=by omega
  obtain ⟨x,hx⟩:∃ x,m.events[k]=x:=⟨_,rfl⟩;have ee:xE m (k:Int)=some x:=by simp [xE,hk,hx]
  have eR:ir m s k user=(!fa m s && decide (x.stage<(m.stages.length:Int)) && bq s.opn x.stage && Bz m x.role user && (decide (x.times<=0) || decide (rG s.cnt k<x.times))):=by simp only [ir,ee]
  have eN:¬ 0<=x.stage -> bq s.opn x.stage=false:=fun h=>jB _ _ (by omega);rw [eR];by_cases hc:k<s.cnt.length
  .have eA:rG s.cnt k=s.cnt[k]:=(by simp [rG,hc]);by_cases hro:0<=x.role /\ x.role<(m.roles.length:Int)
   .obtain ⟨q,hq⟩:∃ q:Nat,x.role=(q:Int):=⟨x.role.toNat,by omega⟩;have hq2:q<m.roles.length:=(by omega);have eO:Bz m x.role user=(decide (0<=user) && decide (user<(m.users.length:Int)) && bq m.roles[q].2 user):=(by simp [Bz,hq,hq2]);have hrq:=hr _ (Vg hq2);rw [eA,eO];unfold eV at *
    repeat' first|refine gq ?_|simp only [ab,hk,hx,hc,hq,hq2]|decide|refine sp ?_ ?_<;>intro _|((with_reducible first|apply ax (g:=101)|apply aL (g:=101));exact (dA _ _ ho))|((with_reducible first|apply ax (g:=101)|apply aL (g:=101));exact (dA _ _ hrq))|((with_reducible first|apply ax (g:=103)|apply aL (g:=103));exact (fZ _ _ hl hd))|((with_reducible first|apply ax (g:=140)|apply aL (g:=140));exact (nV _ _))
    all_goals (unfold eV at *;grind)
   .have eO:Bz m x.role user=false:=by
     have:(decide (0<=x.role) && decide (x.role<(m.roles.length:Int)))=false:=by
      rw [VW];simp only [VA];omega
     simp [Bz,this]
    have eI':eV x.role (m.roles.length:Int)=false:=by unfold eV;grind
    rw [eA,eO]
    repeat' first|refine gq ?_|simp only [ab,hk,hx,hc,eI']|decide|refine sp ?_ ?_<;>intro _|((with_reducible first|apply ax (g:=101)|apply aL (g:=101));exact (dA _ _ ho))|((with_reducible first|apply ax (g:=103)|apply aL (g:=103));exact (fZ _ _ hl hd))|((with_reducible first|apply ax (g:=140)|apply aL (g:=140));exact (nV _ _))
    all_goals (unfold eV at *;grind)
  .have eA:rG s.cnt k=0:=by simp [rG];omega
   by_cases hro:0<=x.role /\ x.role<(m.roles.length:Int)
   .obtain ⟨q,hq⟩:∃ q:Nat,x.role=(q:Int):=⟨x.role.toNat,by omega⟩;have hq2:q<m.roles.length:=(by omega);have eO:Bz m x.role user=(decide (0<=user) && decide (user<(m.users.length:Int)) && bq m.roles[q].2 user):=(by simp [Bz,hq,hq2]);have hrq:=hr _ (Vg hq2);rw [eA,eO]
    repeat' first|refine gq ?_|simp only [ab,hk,hx,hc,hq,hq2]|decide|refine sp ?_ ?_<;>intro _|((with_reducible first|apply ax (g:=101)|apply aL (g:=101));exact (dA _ _ ho))|((with_reducible first|apply ax (g:=101)|apply aL (g:=101));exact (dA _ _ hrq))|((with_reducible first|apply ax (g:=103)|apply aL (g:=103));exact (fZ _ _ hl hd))|((with_reducible first|apply ax (g:=140)|apply aL (g:=140));exact (nV _ _))
    all_goals (unfold eV at *;grind)
   .have eO:Bz m x.role user=false:=by
     have:(decide (0<=x.role) && decide (x.role<(m.roles.length:Int)))=false:=by
      rw [VW];simp only [VA];omega
     simp [Bz,this]
    have eI':eV x.role (m.roles.length:Int)=false:=by unfold eV;grind
    rw [eA,eO]
    repeat' first|refine gq ?_|simp only [ab,hk,hx,hc,eI']|decide|refine sp ?_ ?_<;>intro _|((with_reducible first|apply ax (g:=101)|apply aL (g:=101));exact (dA _ _ ho))|((with_reducible first|apply ax (g:=103)|apply aL (g:=103));exact (fZ _ _ hl hd))|((with_reducible first|apply ax (g:=140)|apply aL (g:=140));exact (nV _ _))
    all_goals (unfold eV at *;grind)
 .have ee:xE m event=none:=by
   unfold xE;split
   .exact Vt (by omega)
   .rfl
  have eR:ir m s event user=false:=by simp only [ir,ee]
  have eI':eV event (m.events.length:Int)=false:=by unfold eV;grind
  rw [eR]
  repeat' first|refine gf eI' ?_|decide|refine sp ?_ ?_<;>intro _|((with_reducible first|apply ax (g:=140)|apply aL (g:=140));exact (nV _ _))
end
section
theorem Df (s:St) (event user:Int) (hd:∀ x ∈ s.did,aF x):aw Tryz.prog 102 [.agg (gh s),eI event,eI user] (val (.bool (bq (rG s.did event) user))):=by
 refine aa ag Tryz.func102 rfl (by decide) Tryz.ntmps102 Tryz.results102 rfl (aI _) ?_;by_cases h:0<=event /\ event<(s.did.length:Int)
 .obtain ⟨k,rfl⟩:∃ k:Nat,event=(k:Int):=⟨event.toNat,by omega⟩;have hk:k<s.did.length:=by omega
  have eA:rG s.did k=s.did[k]:=by simp [rG,hk]
  have eI':eV (k:Int) (s.did.length:Int)=true:=by unfold eV;simp;omega
  rw [eA]
  repeat' first|refine gq ?_|simp only [ab,hk,eI']|decide|refine sp ?_ ?_<;>intro _|((with_reducible first|apply ax (g:=140)|apply aL (g:=140));exact (nV _ _))|((with_reducible first|apply ax (g:=101)|apply aL (g:=101));exact (dA _ _ (hd _ (Vg hk))))
 .have eA:rG s.did event=0:=by unfold rG;rw [Vj h]
  have eI':eV event (s.did.length:Int)=false:=by unfold eV;grind
  have eB':bq 0 user=false:=by simp [bq]
  rw [eA,eB']
  repeat' first|refine gf eI' ?_|decide|refine sp ?_ ?_<;>intro _|((with_reducible first|apply ax (g:=140)|apply aL (g:=140));exact (nV _ _))
theorem DH (m:bl) (s:St) (event user:Int) (hl:m.miles.length<=1000000) (hl2:m.sods.length<=1000000) (ho:aF s.opn) (hd:aF s.don) (hr:∀ p ∈ m.roles,aF p.2) (hdid:∀ x ∈ s.did,aF x):aw Tryz.prog 119 [.agg (aQ m),.agg (gh s),eI event,eI user] (val (.bool (dZ m s event user))):=by
 refine aa ag Tryz.func119 rfl (by decide) Tryz.ntmps119 Tryz.results119 rfl (aI _) ?_;unfold dZ
 cases hfr:ir m s event user with
 | false=>
  repeat' first|refine gf @hfr ?_|decide|refine sp ?_ ?_<;>intro _|((with_reducible first|apply ax (g:=141)|apply aL (g:=141));exact (yr m s event user hl ho hd hr))
  rfl
 | true=>
  repeat' first|refine gf @hfr ?_|decide|refine sp ?_ ?_<;>intro _|((with_reducible first|apply ax (g:=141)|apply aL (g:=141));exact (yr m s event user hl ho hd hr))
  unfold xD;refine ae (fun st=>∃ k:Nat,k<=m.sods.length /\ fg (jK m s event user) k=false /\ st=⟨57,[(2,eI event),(3,eI user),(4,.op 0 0 0),(5,.op 1 0 0),(9,eI (k:Int))],[(0,some (.box 32 (aQ m))),(1,some (.box 132 (gh s)))],2⟩) (fun st=>m.sods.length - ap st 9) ⟨_,wC,0,Vd _,rfl,rfl⟩ ?_;rintro _ ⟨k,hk,hI,rfl⟩;by_cases hlt:k<m.sods.length
  .obtain ⟨⟨a,b⟩,hx⟩:∃ x,m.sods[k]=x:=⟨_,rfl⟩;have ex:Tq m.sods[k]=[eI a,eI b]:=(by rw [hx]);have eF:jK m s event user k=(((a == event) && bq (rG s.did b) user) || ((b == event) && bq (rG s.did a) user)):=(by simp [jK,hlt,hx])
   repeat' first|refine ge @hlt ?_|decide|refine sp ?_ ?_<;>intro _
   refine ay [] [0,1,2,3,4,5,6,7,8,9,10,11] (.exec 12 (.exec 13 .done)) (by kernel_rfl) (by simp [af.gc]) ?_
   repeat' first|refine gq ?_|simp only [ab,hlt,ex]|decide|refine sp ?_ ?_<;>intro _|((with_reducible first|apply ax (g:=102)|apply aL (g:=102));exact (Df s b user hdid))|((with_reducible first|apply ax (g:=102)|apply aL (g:=102));exact (Df s a user hdid))
   all_goals first
    | (rw [show fg (jK m s event user) m.sods.length=true from lZ hlt (by rw [eF];grind)];rfl)
    | exact rI wC ⟨k+1,by omega,kb hI (by rw [eF];grind),rfl⟩
  .obtain rfl:k=m.sods.length:=by omega
   repeat' first|refine gf @hlt ?_|decide|refine sp ?_ ?_<;>intro _
   rw [hI];rfl
theorem BZ (m:bl) (s:St) (event:Int) (hl:m.miles.length<=1000000) (hl2:m.sods.length<=1000000) (hl3:m.users.length<=1000000) (ho:aF s.opn) (hd:aF s.don) (hr:∀ p ∈ m.roles,aF p.2) (hdid:∀ x ∈ s.did,aF x):aw Tryz.prog 75 [.agg (aQ m),.agg (gh s),eI event] (g8 3 1 ((fA m s event).map fun n=>[eI n])):=by
 refine aa ag Tryz.func75 rfl (by decide) Tryz.ntmps75 Tryz.results75 rfl (ch _ _ _) ?_
 repeat' first|refine go ?_|decide|refine sp ?_ ?_<;>intro _
 unfold fA;obtain ⟨f,hf⟩:∃ f:Nat -> Bool,f=fun u:Nat=>dZ m s event (u:Int):=⟨_,rfl⟩;rw [<- hf];have e0:eh f 0=[]:=rfl;refine ae (fun st=>∃ k:Nat,k<=m.users.length /\ st=⟨26,[(2,eI event),(3,.op 0 0 0),(4,.op 1 0 0),(7,.osl 2),(8,eI (k:Int))],[(0,some (.box 32 (aQ m))),(1,some (.box 132 (gh s))),(2,some (.row 3 1 ((eh f k).map fun n=>[eI n])))],3⟩) (fun st=>m.users.length - ap st 8) ⟨_,((be 7 3 1 (by simp only [iz,aj.get,bb,aj.put,↓reduceIte,reduceCtorEq,Nat.reduceLT,Nat.reduceEqDiff,Nat.reduceAdd,Nat.reduceLeDiff,eq_self,implies_true,e0,VL])).trans (wS [0,1,2] e0)),0,Vd _,rfl⟩ ?_;rintro _ ⟨k,hk,rfl⟩;have hlen:=mw f k;by_cases hlt:k<m.users.length
 .have hef:dZ m s event (k:Int)=f k:=by rw [hf]
  repeat' first|refine gf @hlt ?_|decide|refine sp ?_ ?_<;>intro _|((refine ax (DH m s event (k:Int) hl hl2 ho hd hr hdid) ?_;rw [hef]))
  .rename_i h
   have et:(eh f (k+1)).map (fun n=>[eI n])=(eh f k).map (fun n=>[eI n]) ++ [[eI (k:Int)]]:=by
    rw [eh,Vo h];simp
   refine ⟨rfl,by omega,rI (wS [0,1,4] et) ⟨k+1,by omega,rfl⟩⟩
  .rename_i h
   have et:eh f (k+1)=eh f k:=by
    rw [eh,Vj (by simp [h])]
   exact rI (wE et) ⟨k+1,by omega,rfl⟩
 .obtain rfl:k=m.users.length:=by omega
  repeat' first|refine gf @hlt ?_|decide|refine sp ?_ ?_<;>intro _
  exact aM (by simp [af.gc])
theorem ww (f:Nat -> Bool):∀ n,decide (0<((eh f n).length:Int))=fg f n
 | 0=>rfl
 | n+1=>by
  have:=ww f n;unfold eh fg;split
  .rename_i h;simp [h]
  .rename_i h;simp only [h,XQ,this]
theorem IR (m:bl) (s:St) (hle:m.events.length<=1000000) (hl:m.miles.length<=1000000) (hl2:m.sods.length<=1000000) (hl3:m.users.length<=1000000) (ho:aF s.opn) (hd:aF s.don) (hr:∀ p ∈ m.roles,aF p.2) (hdid:∀ x ∈ s.did,aF x):aw Tryz.prog 79 [.agg (aQ m),.agg (gh s)] (val (.bool (se m s))):=by
 refine aa ag Tryz.func79 rfl (by decide) Tryz.ntmps79 Tryz.results79 rfl (aI _) ?_
 repeat' first|refine go ?_|decide|refine sp ?_ ?_<;>intro _
 unfold se;obtain ⟨f,hf⟩:∃ f:Nat -> Bool,f=fun e:Nat=>fg (fun u=>dZ m s (e:Int) (u:Int)) m.users.length:=⟨_,rfl⟩;rw [<- hf];refine ae (fun st=>∃ k:Nat,k<=m.events.length /\ fg f k=false /\ st=⟨19,[(2,.op 0 0 0),(3,.op 1 0 0),(5,eI (k:Int))],[(0,some (.box 32 (aQ m))),(1,some (.box 132 (gh s)))],2⟩) (fun st=>m.events.length - ap st 5) ⟨_,wC,0,Vd _,rfl,rfl⟩ ?_;rintro _ ⟨k,hk,hI,rfl⟩;by_cases hlt:k<m.events.length
 .have hef:decide (0<((fA m s (k:Int)).length:Int))=f k:=by rw [hf];exact ww _ _
  repeat' first|refine gf @hlt ?_|decide|refine sp ?_ ?_<;>intro _|((with_reducible apply cd (g:=75));exact (BZ m s (k:Int) hl hl2 hl3 ho hd hr hdid);exact (.inr eC))
  all_goals rename_i h
  all_goals simp only [Vp,hef] at h
  .symm;exact lZ hlt h
  .exact rI wC ⟨k+1,by omega,kb hI h,rfl⟩
 .obtain rfl:k=m.events.length:=by omega
  repeat' first|refine gf @hlt ?_|decide|refine sp ?_ ?_<;>intro _
  exact hI.symm
end
section
theorem lj (n:Nat):j5 (n:Int)=((2 ^ (min n 31) - 1:Nat):Int):=by
 have h1:(max 0 (min (n:Int) 31)).toNat=min n 31:=by omega
 have h2:0<2 ^ (min n 31):=Nat.two_pow_pos _;unfold j5;rw [h1];generalize min n 31=k at *;have:((2 ^ k:Nat):Int)=(2:Int) ^ k:=by simp
 omega
theorem yQ (s:Int) (n:Nat) (hs:0<=s /\ s<2147483648):G3 s (n:Int)=true ↔ ∀ i:Nat,n<=i -> i<31 -> bq s (i:Int)=false:=by
 obtain ⟨q,rfl⟩:∃ q:Nat,s=(q:Int):=⟨s.toNat,by omega⟩;have hq:q<2 ^ 31:=by omega
 have hl:lx (q:Int)=q:=by
  simp only [lx];omega
 unfold G3;rw [lj];have h2:0<2 ^ (min n 31):=Nat.two_pow_pos _;constructor
 .intro h i h3 h4;simp at h;have hlt:q<2 ^ (min n 31):=by omega
  rw [cW _ _ h4,hl];refine WF (Vn hlt ?_);exact VU (by omega) (by omega)
 .intro h
  have hlt:q<2 ^ (min n 31):=by
   refine Nat.lt_pow_two_of_testBit _ fun i hi=>?_;by_cases h31:i<31
   .have:=h i (by omega) h31
    rwa [cW _ _ h31,hl] at this
   .refine WF (Vn hq ?_);exact VU (by omega) (by omega)
  simp;omega
theorem vf (n:Nat):j5 (n:Int)<2147483648:=by
 rw [lj];have:2 ^ (min n 31)<=2 ^ 31:=VU (by omega) (by omega);have h2:0<2 ^ (min n 31):=Nat.two_pow_pos _;omega
theorem p9 {s:Int} {n:Nat} (h:G3 s (n:Int)=true):cR s:=by
 unfold G3 at h;simp at h;have:=vf n;unfold cR;omega
theorem uu (s:Int) (n:Nat) (hs:aF s):aw Tryz.prog 145 [eI s,eI (n:Int)] (val (.bool (G3 s (n:Int)))):=by
  refine aa ag Tryz.func145 rfl (by decide) Tryz.ntmps145 Tryz.results145 rfl (aI _) ?_
  repeat' first|refine go ?_|decide|refine sp ?_ ?_<;>intro _
  refine ae (fun st=>∃ k:Nat,k<=31 /\ (∀ i:Nat,n<=i -> i<k -> bq s (i:Int)=false) /\ st=⟨24,[(0,eI s),(1,eI (n:Int)),(5,eI (k:Int))],[],0⟩) (fun st=>31 - ap st 5) ⟨_,wC,0,Vd _,by simp,rfl⟩ ?_;rintro _ ⟨k,hk,hI,rfl⟩;by_cases hlt:k<31
  . have h31:(k:Int)<31:=by omega
    repeat' first|refine gf h31 ?_|decide|refine sp ?_ ?_<;>intro _|((with_reducible first|apply ax (g:=101)|apply aL (g:=101));exact (dA _ _ hs))
    all_goals first
      | (rename_i h1 h2
         simp at h1;symm;rw [Wi];intro hof;have:=(yQ s n (p9 hof)).1 hof k (by omega) hlt;rw [this] at h2;cases h2)
      | (rename_i h1 h2
         simp at h1;refine rI wC ⟨k+1,by omega,fun i hi hi2=>?_,rfl⟩;rcases Vw i k with h3|h3
         . exact hI i hi h3
         . obtain rfl:i=k:=by omega
           exact h2)
      | (rename_i h1
         simp at h1;refine rI wC ⟨k+1,by omega,fun i hi hi2=>?_,rfl⟩;exact hI i hi (by omega))
  . obtain rfl:k=31:=by omega
    have h31:(((31:Nat):Int)<31)=False:=by simp
    repeat' first|refine gf h31 ?_|decide|refine sp ?_ ?_<;>intro _
    . rename_i h1;simp at h1;by_cases h2:s<=2147483647
      . rw [(yQ s n ⟨h1,by omega⟩).2 hI];simp [h2]
      . have h3:G3 s (n:Int)=false:=by
          rw [Wi];intro hof;have:=p9 hof;unfold cR at this;omega
        rw [h3];simp [h2]
    . rename_i h1;simp at h1;symm;rw [Wi];intro hof;have:=p9 hof;unfold cR at this;omega
theorem I2 (m:bl) (s:St) (hl:m.events.length<=1000000) (ho:aF s.opn) (hd:aF s.don) (hdid:∀ x ∈ s.did,aF x):aw Tryz.prog 114 [.agg (aQ m),.agg (gh s)] (val (.bool (AF m s))):=by
 refine aa ag Tryz.func114 rfl (by decide) Tryz.ntmps114 Tryz.results114 rfl (aI _) ?_;by_cases hsz:s.vals.length=m.attrs.length /\ s.did.length=m.events.length /\ s.cnt.length=m.events.length
 .obtain ⟨h1,h2,h3⟩:=hsz;have n1:(((s.vals.length:Nat):Int) != ((m.attrs.length:Nat):Int))=false:=by simp [h1]
  have n2:(((s.did.length:Nat):Int) != ((m.events.length:Nat):Int))=false:=by simp [h2]
  have n3:(((s.cnt.length:Nat):Int) != ((m.events.length:Nat):Int))=false:=by simp [h3]
  have hall:AF m s=(G3 s.opn m.stages.length && G3 s.don m.miles.length && oK (Ah m s) m.events.length):=by simp [AF,h1,h2,h3]
  rw [hall];obtain ⟨f,hf⟩:∃ f,f=Ah m s:=⟨_,rfl⟩;rw [<- hf];have e0:oK f 0=true:=rfl
  have loop:∀ (b0:Bool) (k:Nat),k<m.events.length -> ∀ b,(b0 && oK f k)=b -> (b0 && oK f (k+1))=(b && f k):=fun b0 k hk b hb=>by
   rw [<- hb];simp [oK,Bool.and_assoc]
  repeat' first|refine gf (kf n1 (kf n2 n3)) ?_|decide|refine sp ?_ ?_<;>intro _|((with_reducible first|apply ax (g:=145)|apply aL (g:=145));exact (uu _ _ ho))|((with_reducible first|apply ax (g:=145)|apply aL (g:=145));exact (uu _ _ hd))
  .rename_i h;rw [h,VX];obtain ⟨b0,hb0⟩:∃ b,G3 s.don m.miles.length=b:=⟨_,rfl⟩;rw [hb0];refine ae (fun st=>∃ k:Nat,k<=m.events.length /\ st=⟨86,[(2,.op 0 0 0),(3,.op 1 0 0),(5,eI (m.events.length:Int)),(6,eB (b0 && oK f k)),(7,eI (k:Int))],[(0,some (.box 32 (aQ m))),(1,some (.box 132 (gh s)))],2⟩) (fun st=>m.events.length - ap st 7) ⟨_,(wE (kf hb0 (kf e0 @Bool.and_true))),0,Vd _,rfl⟩ ?_;rintro _ ⟨k,hk,rfl⟩;by_cases hlt:k<m.events.length
   .have hd':k<s.did.length:=(by omega);have hc:k<s.cnt.length:=(by omega);have eF:f k=(G3 s.did[k] m.users.length && decide (0<=s.cnt[k]) && decide (s.cnt[k]<=m.events[k].times)):=by rw [hf];simp [Ah,hd',hc,hlt]
    have hs:=loop b0 k hlt;obtain ⟨b,hb⟩:∃ b,(b0 && oK f k)=b:=⟨_,rfl⟩;have hs:=hs b hb;rw [hb]
    repeat' first|refine gq ?_|simp only [ab,hlt,hd',hc]|decide|refine sp ?_ ?_<;>intro _|((with_reducible first|apply ax (g:=145)|apply aL (g:=145));exact (uu _ _ (hdid _ (Vg hd'))))
    .have hv:(b0 && oK f (k+1))=decide (s.cnt[k]<=m.events[k].times):=(by grind);exact rI (wE hv) ⟨k+1,by omega,rfl⟩
    all_goals
     have hv:(b0 && oK f (k+1))=false:=(by grind);exact rI (wE hv) ⟨k+1,by omega,rfl⟩
   .obtain rfl:k=m.events.length:=by omega
    repeat' first|refine gf @hlt ?_|decide|refine sp ?_ ?_<;>intro _
  .rename_i h;rw [h];refine ae (fun st=>∃ k:Nat,k<=m.events.length /\ st=⟨86,[(2,.op 0 0 0),(3,.op 1 0 0),(5,eI (m.events.length:Int)),(6,eB false),(7,eI (k:Int))],[(0,some (.box 32 (aQ m))),(1,some (.box 132 (gh s)))],2⟩) (fun st=>m.events.length - ap st 7) ⟨_,wC,0,Vd _,rfl⟩ ?_;rintro _ ⟨k,hk,rfl⟩;by_cases hlt:k<m.events.length
   .repeat' first|refine gf @hlt ?_|decide|refine sp ?_ ?_<;>intro _
    all_goals exact rI wC ⟨k+1,by omega,rfl⟩
   .obtain rfl:k=m.events.length:=by omega
    repeat' first|refine gf @hlt ?_|decide|refine sp ?_ ?_<;>intro _
    simp
 .have hall:AF m s=false:=by
   unfold AF;rw [Wi];simp only [ne_eq,VB,VJ]
   grind
  rw [hall]
  repeat' first|refine gq ?_|decide|refine sp ?_ ?_<;>intro _
  all_goals first
   | rfl
   | (exfalso;grind)
end
end
section
section
theorem PE (m:bl) (s:St) (event:Int) (hl:m.miles.length<=1000000) (hl2:m.sods.length<=1000000) (hl3:m.users.length<=1000000):aw Tryz.prog 130 [.agg (aQ m),.agg (gh s),eI event] (val (.bool (decide (0<((fA m s event).length:Int))))):=by
 refine aa ag Tryz.func130 rfl (by decide) Tryz.ntmps130 Tryz.results130 rfl (aI _) ?_
 repeat' first|refine gq ?_|decide|refine sp ?_ ?_<;>intro _|((with_reducible apply cd (g:=157));exact (UJ m s event hl hl2 hl3);exact (.inr eC))
noncomputable def pn (m:bl) (s:St):Bool:=fg (fun i=>bq s.opn (i:Int)) m.stages.length
noncomputable def mF (m:bl) (s:St):Bool:=fg (fun e=>fg (fun u=>ir m s (e:Int) (u:Int)) m.users.length) m.events.length
noncomputable def jp (m:bl) (s:St):Bool:=pn m s && mF m s && !se m s
theorem OO (a:Int) (b:Nat) (hb:b<2147483648):bits .and .i64 a (b:Int)=((lx a &&& b:Nat):Int):=by
 show IntKind.i64.wrap ((BitVec.ofInt 64 a &&& BitVec.ofInt 64 (b:Int)).toNat:Int)=_;have hbb:b &&& (2 ^ 31 - 1)=b:=by rw [Nat.and_two_pow_sub_one_eq_mod];omega
 have h:(BitVec.ofInt 64 a &&& BitVec.ofInt 64 (b:Int)).toNat=lx a &&& b:=by
  rw [BitVec.toNat_and,iG b (by omega),BitVec.toNat_ofInt]
  have e:lx a=(a % ((2 ^ 64:Nat):Int)).toNat &&& (2 ^ 31 - 1):=by
   rw [Nat.and_two_pow_sub_one_eq_mod];unfold lx;omega
  rw [e,Nat.and_assoc,Nat.and_comm (2 ^ 31 - 1) b,hbb]
 rw [h];exact tz _ (XG Nat.and_le_right (by omega))
theorem Jv (m:bl) (s:St):(bits .and .i64 s.opn (j5 (m.stages.length:Int)) == 0) = !pn m s:=by
 rw [lj,OO _ _ (by have:=vf m.stages.length;rw [lj] at this;omega)];rw [Ws]
 have key:(lx s.opn &&& (2 ^ min m.stages.length 31 - 1)=0) ↔ ¬ pn m s=true:=by
  unfold pn;rw [eu];constructor
  .rintro h ⟨i,hi,hh⟩;by_cases h31:i<31
   .rw [cW _ _ h31] at hh
    have:(lx s.opn &&& (2 ^ min m.stages.length 31 - 1)).testBit i=true:=by
     rw [Nat.testBit_and,hh,WS];simp;omega
    rw [h] at this;simp at this
   .rw [jB _ _ (by omega)] at hh;cases hh
  .intro h;apply Xs;intro i;rw [Nat.testBit_and,WS,Nat.zero_testBit];by_cases hi:i<min m.stages.length 31
   .cases hb:(lx s.opn).testBit i
    .rfl
    .exact absurd ⟨i,by omega,by rw [cW _ _ (by omega),hb]⟩ h
   .simp [hi]
 rw [Wu,Xr,<- Bool.not_eq_true,<- key];omega
theorem GO (m:bl) (s:St) (h:mF m s=true):fa m s=false:=by
 unfold mF at h;obtain ⟨e,he,h⟩:=(eu _ _).1 h;obtain ⟨u,hu,h⟩:=(eu _ _).1 h;unfold ir at h;cases hc:fa m s
 .rfl
 .rw [hc] at h;simp at h;split at h<;>cases h
theorem EB (m:bl) (s:St) (hl:m.events.length<=1000000) (hl2:m.users.length<=1000000) (hl3:m.miles.length<=1000000) (hl4:m.sods.length<=1000000):aw Tryz.prog 132 [.agg (aQ m),.agg (gh s)] (val (.bool (jp m s))):=by
 refine aa ag Tryz.func132 rfl (by decide) Tryz.ntmps132 Tryz.results132 rfl (aI _) ?_;have ho:=Jv m s;by_cases h1:pn m s=true
 .have hn:(!pn m s)=false:=by rw [h1];rfl
  by_cases h2:se m s=true
  .have hv:jp m s=false:=by unfold jp;rw [h2];simp
   have ha:=Pk m s hl hl2 hl3 hl4;rw [h2] at ha
   repeat' first|refine gf (kf ho (kf hn hv)) ?_|decide|refine sp ?_ ?_<;>intro _|((with_reducible first|apply ax (g:=158)|apply aL (g:=158));exact (xG (m.stages.length:Int)))|refine cA ha ?_|fail
  .have h2:se m s=false:=(by simpa using h2);have hv:jp m s=mF m s:=by unfold jp;rw [h1,h2];simp
   have ha:=Pk m s hl hl2 hl3 hl4;rw [h2] at ha;rw [hv]
   repeat' first|refine gf (kf ho hn) ?_|decide|refine sp ?_ ?_<;>intro _|((with_reducible first|apply ax (g:=158)|apply aL (g:=158));exact (xG (m.stages.length:Int)))|refine cA ha ?_|((with_reducible apply bJ (g:=160));exact (EF m);exact (ro))
   refine AU ag (fun pre st=>(∀ e u:Nat,[eI (e:Int),eI (u:Int)] ∈ pre -> ir m s (e:Int) (u:Int)=false) /\ st=⟨29,[(2,.op 0 0 0),(3,.op 1 0 0),(4,.op 2 0 0)],[(0,some (.box 32 (aQ m))),(1,some (.box 132 (gh s))),(2,some (.box 4 [eB false]))],3⟩)
    (fun c pre st=>c=.ret /\ mF m s=true /\ st=⟨29,[(4,.op 2 0 0)],[(2,some (.box 4 [eB true]))],3⟩) (by simp -implicitDefEqProofs (maxSteps:=5000000) only [uy,↓reduceIte,reduceCtorEq,Nat.reduceLT,Nat.reduceEqDiff,Nat.reduceAdd,Nat.reduceMul,Nat.reduceSub,Nat.reduceLeDiff,Nat.reduceBEq]) (by simp [aR,aY]) (zY m hl hl2) (fun x hx=>by obtain ⟨e,u,_,_,rfl⟩:=gU.1 hx;rfl) (by kernel_rfl) (by kernel_rfl) (fJ wC ⟨by simp,rfl⟩) ?_ ?_ ?_
   .rintro pre x _ hp ⟨hpre,rfl⟩;obtain ⟨e,u,he,hu,rfl⟩:=gU.1 (hp.subset (show x ∈ pre ++ [x] by simp))
    repeat' first|simp -implicitDefEqProofs (maxSteps:=5000000) only [uy,↓reduceIte,reduceCtorEq,Nat.reduceLT,Nat.reduceEqDiff,Nat.reduceAdd,Nat.reduceMul,Nat.reduceSub,Nat.reduceLeDiff,Nat.reduceBEq,Tr]|refine sp ?_ ?_<;>intro _|(with_reducible refine aA (by kernel_rfl) ?_)|((with_reducible first|apply ax (g:=161)|apply aL (g:=161));exact (IJ m s (e:Int) (u:Int) hl3))
    .rename_i hen;exact fJ wC ⟨(eu _ _).2 ⟨e,he,(eu _ _).2 ⟨u,hu,hen⟩⟩,rfl⟩
    .rename_i hen;refine fJ wC ⟨fun e' u' hm=>?_,rfl⟩;rcases Vs.1 hm with hm|hm
     .exact hpre e' u' hm
     .simp at hm;obtain ⟨h1,h2⟩:=hm;rw [h1,h2];exact hen
   .rintro _ ⟨hpre,rfl⟩
    repeat' first|simp -implicitDefEqProofs (maxSteps:=5000000) only [uy,↓reduceIte,reduceCtorEq,Nat.reduceLT,Nat.reduceEqDiff,Nat.reduceAdd,Nat.reduceMul,Nat.reduceSub,Nat.reduceLeDiff,Nat.reduceBEq,Tr]|refine sp ?_ ?_<;>intro _|(with_reducible refine aA (by kernel_rfl) ?_)
    symm;rw [Wi];intro ha;obtain ⟨e,he,ha⟩:=(eu _ _).1 ha;obtain ⟨u,hu,ha⟩:=(eu _ _).1 ha;rw [hpre e u (gU.2 ⟨e,u,he,hu,rfl⟩)] at ha;cases ha
   .rintro _ pre _ hp ⟨rfl,ha,rfl⟩
    repeat' first|simp -implicitDefEqProofs (maxSteps:=5000000) only [uy,↓reduceIte,reduceCtorEq,Nat.reduceLT,Nat.reduceEqDiff,Nat.reduceAdd,Nat.reduceMul,Nat.reduceSub,Nat.reduceLeDiff,Nat.reduceBEq,Tr]|refine sp ?_ ?_<;>intro _|(with_reducible refine aA (by kernel_rfl) ?_)
    exact ha.symm
 .have h1:pn m s=false:=by simpa using h1
  have hn:(!pn m s)=true:=by rw [h1];rfl
  have hv:jp m s=false:=by unfold jp;rw [h1];simp
  repeat' first|refine gf (kf ho (kf hn hv)) ?_|decide|refine sp ?_ ?_<;>intro _|((with_reducible first|apply ax (g:=158)|apply aL (g:=158));exact (xG (m.stages.length:Int)))
theorem JT (m:bl) (s:St) (hst:m.stages.length<=1000000) (hle:m.events.length<=1000000) (hl:m.miles.length<=1000000) (hl2:m.sods.length<=1000000) (hl3:m.users.length<=1000000) (ho:aF s.opn) (hd:aF s.don) (hr:∀ p ∈ m.roles,aF p.2) (hdid:∀ x ∈ s.did,aF x):aw Tryz.prog 104 [.agg (aQ m),.agg (gh s)] (val (.bool (jp m s))):=by
 refine aa ag Tryz.func104 rfl (by decide) Tryz.ntmps104 Tryz.results104 rfl (aI _) ?_;obtain ⟨f1,hf1⟩:∃ f:Nat -> Bool,f=fun (i:Nat)=>bq s.opn (i:Int):=⟨_,rfl⟩;obtain ⟨f2,hf2⟩:∃ f:Nat -> Nat -> Bool,f=fun (e u:Nat)=>ir m s (e:Int) (u:Int):=⟨_,rfl⟩;obtain ⟨f3,hf3⟩:∃ f:Nat -> Bool,f=fun e=>fg (f2 e) m.users.length:=⟨_,rfl⟩;have ho1:pn m s=fg f1 m.stages.length:=by rw [hf1];rfl
 have hfr:mF m s=fg f3 m.events.length:=by rw [hf3,hf2];rfl
 repeat' first|refine gq ?_|decide|refine sp ?_ ?_<;>intro _
 refine ae (fun st=>∃ (k:Nat) (b:Bool),k<=m.stages.length /\ b=fg f1 k /\ st=⟨62,[(2,.op 0 0 0),(3,.op 1 0 0),(5,eB b),(6,eB false),(7,eI (k:Int))],[(0,some (.box 32 (aQ m))),(1,some (.box 132 (gh s)))],2⟩) (fun st=>m.stages.length - ap st 7) ⟨_,wC,0,false,Vd _,rfl,rfl⟩ ?_;rintro _ ⟨k,b,hk,hb,rfl⟩;by_cases hlt:k<m.stages.length
 .cases b with
  | true=>
   repeat' first|refine gf @hlt ?_|decide|refine sp ?_ ?_<;>intro _
   exact rI wC ⟨k+1,true,by omega,by simp [fg,<- hb],rfl⟩
  | false=>
   have hh:=dA s.opn (k:Int) ho
   repeat' first|refine gf @hlt ?_|decide|refine sp ?_ ?_<;>intro _|refine cA hh ?_|fail
   exact rI wC ⟨k+1,bq s.opn (k:Int),by omega,by rw [fg,<- hb,Xv,hf1],rfl⟩
 .obtain rfl:k=m.stages.length:=by omega
  rw [<- ho1] at hb
  repeat' first|refine gf @hlt ?_|decide|refine sp ?_ ?_<;>intro _
  refine ae (fun st=>∃ (e:Nat) (c:Bool),e<=m.events.length /\ c=fg f3 e /\ st=⟨62,[(2,.op 0 0 0),(3,.op 1 0 0),(5,eB b),(6,eB c),(8,eI (e:Int))],[(0,some (.box 32 (aQ m))),(1,some (.box 132 (gh s)))],2⟩) (fun st=>m.events.length - ap st 8) ⟨_,wC,0,false,Vd _,rfl,rfl⟩ ?_;rintro _ ⟨e,c,he,hc,rfl⟩;by_cases hle2:e<m.events.length
  .repeat' first|refine gf @hle2 ?_|decide|refine sp ?_ ?_<;>intro _
   refine ae (fun st=>∃ (u:Nat) (d:Bool),u<=m.users.length /\ d=(fg f3 e || fg (f2 e) u) /\ st=⟨62,[(2,.op 0 0 0),(3,.op 1 0 0),(5,eB b),(6,eB d),(8,eI (e:Int)),(9,eI (u:Int))],[(0,some (.box 32 (aQ m))),(1,some (.box 132 (gh s)))],2⟩) (fun st=>m.users.length - ap st 9) ⟨_,wC,0,c,Vd _,by simp [fg,hc],rfl⟩ ?_;rintro _ ⟨u,d,hu,hd2,rfl⟩;by_cases hlu:u<m.users.length
   .cases d with
    | true=>
     repeat' first|refine gf @hlu ?_|decide|refine sp ?_ ?_<;>intro _
     exact rI wC ⟨u+1,true,by omega,by simp only [fg,<- Bool.or_assoc,<- hd2,Bool.true_or],rfl⟩
    | false=>
     have hh:=yr m s (e:Int) (u:Int) hl ho hd hr
     repeat' first|refine gf @hlu ?_|decide|refine sp ?_ ?_<;>intro _|refine cA hh ?_|fail
     exact rI wC ⟨u+1,ir m s (e:Int) (u:Int),by omega,by rw [fg,<- Bool.or_assoc,<- hd2,Xv,hf2],rfl⟩
   .obtain rfl:u=m.users.length:=by omega
    repeat' first|refine gf @hlu ?_|decide|refine sp ?_ ?_<;>intro _
    exact rI wC ⟨e+1,d,by omega,by rw [hd2];simp [fg,hf3],rfl⟩
  .obtain rfl:e=m.events.length:=by omega
   rw [<- hfr] at hc;have hsk:jp m s=(b && c && !se m s):=by unfold jp;rw [hb,hc]
   rw [hsk]
   cases b with
   | false=>(repeat' (first | refine gf (kf @hle2 @VY) ?_ | decide | refine sp ?_ ?_<;>intro _))
   | true=>
    cases c with
    | false=>(repeat' (first | refine gf (kf @hle2 (kf @VY @VX)) ?_ | decide | refine sp ?_ ?_<;>intro _))
    | true=>
     have hco:=GO m s hc.symm;have h1:=fZ m s hl hd;rw [hco] at h1;have h2:=IR m s hle hl hl2 hl3 ho hd hr hdid
     repeat' first|refine gf (kf @hle2 @VX) ?_|decide|refine sp ?_ ?_<;>intro _|refine cA h1 ?_|refine cA h2 ?_|fail
end
section
noncomputable def fe (m:bl) (s:St) (x:ah):Option Bool:=
 if x.op=1 then some true else if x.op=2 then some false else if x.op=9 then some (bq s.opn x.n) else if x.op=10 then some (bq s.don x.n)
 else if x.op=11 then some (decide (0<((fA m s x.n).length:Int))) else if x.op=12 then some (bq (rG s.did x.n) x.u)
 else if x.op=13 then some (fa m s) else if x.op=14 then some (jp m s) else none
noncomputable def tL (m:bl) (s:St) (x:ah):Bool:=(fe m s x).getD false
theorem MA (m:bl) (s:St) (x:ah) (hl:m.events.length<=1000000) (hl2:m.users.length<=1000000) (hl3:m.miles.length<=1000000) (hl4:m.sods.length<=1000000):aw Tryz.prog 91 [.agg (aQ m),.agg (gh s),.agg (cq x)] ⟨.tup [eB (ic (fe m s x)),eB (fe m s x).isSome],[],0⟩:=by
 have hok:(⟨.tup [eB (ic (fe m s x)),eB (fe m s x).isSome],[],0⟩:cS).Ok:=⟨fun id o h=>(by cases h),by simp [AV.lt,AV.ltL]⟩;refine aa ag Tryz.func91 rfl (by decide) Tryz.ntmps91 Tryz.results91 rfl (hok) ?_;obtain ⟨op,la,ln,ra,rn,n,u⟩:=x;by_cases h12:0<=n /\ n<(s.did.length:Int)
 .obtain ⟨q,rfl⟩:∃ q:Nat,n=(q:Int):=⟨n.toNat,by omega⟩;have hq:q<s.did.length:=by omega
  have hat:rG s.did (q:Int)=s.did[q]:=by
   unfold rG;rw [Vo h12];simp [hq]
  repeat' first|refine gq ?_|simp only [ab,hq]|decide|refine sp ?_ ?_<;>intro _|((with_reducible first|apply ax (g:=130)|apply aL (g:=130));exact (PE m s q hl3 hl4 hl2))|((with_reducible first|apply ax (g:=131)|apply aL (g:=131));exact (k6 m s hl3))|((with_reducible first|apply ax (g:=132)|apply aL (g:=132));exact (EB m s hl hl2 hl3 hl4))|((with_reducible first|apply ax (g:=129)|apply aL (g:=129));exact (nh s.opn q))|((with_reducible first|apply ax (g:=129)|apply aL (g:=129));exact (nh s.don q))|((with_reducible first|apply ax (g:=129)|apply aL (g:=129));exact (nh s.did[q] u))
  all_goals first
   | (refine aV ?_;simp_all [fe,AV.ren,AV.renL,ic];done)
   | (refine aV ?_;simp_all [fe,AV.ren,AV.renL,ic];omega)
 .have hat:bq (rG s.did n) u=false:=by
   unfold rG;rw [Vj h12];simp [bq]
  repeat' first|refine gq ?_|decide|refine sp ?_ ?_<;>intro _|((with_reducible first|apply ax (g:=130)|apply aL (g:=130));exact (PE m s n hl3 hl4 hl2))|((with_reducible first|apply ax (g:=131)|apply aL (g:=131));exact (k6 m s hl3))|((with_reducible first|apply ax (g:=132)|apply aL (g:=132));exact (EB m s hl hl2 hl3 hl4))|((with_reducible first|apply ax (g:=129)|apply aL (g:=129));exact (nh s.opn n))|((with_reducible first|apply ax (g:=129)|apply aL (g:=129));exact (nh s.don n))
  all_goals first
   | (refine aV ?_;simp_all [fe,AV.ren,AV.renL,ic];done)
   | (exfalso;simp at *;omega)
theorem o9 (x:ah):aw Tryz.prog 48 [.agg (cq x)] (val (.bool (decide (3<=x.op) && decide (x.op<=8)))):=by
 refine aa ag Tryz.func48 rfl (by decide) Tryz.ntmps48 Tryz.results48 rfl (aI _) ?_
 repeat' first|refine gq ?_|decide|refine sp ?_ ?_<;>intro _
 all_goals grind
theorem EU (m:bl) (s:St) (x:ah) (hst:m.stages.length<=1000000) (hle:m.events.length<=1000000) (hl:m.miles.length<=1000000) (hl2:m.sods.length<=1000000) (hl3:m.users.length<=1000000) (ho:aF s.opn) (hd:aF s.don) (hr:∀ p ∈ m.roles,aF p.2) (hdid:∀ x ∈ s.did,aF x):aw Tryz.prog 50 [.agg (aQ m),.agg (gh s),.agg (cq x)] (val (.bool (tL m s x))):=by
 refine aa ag Tryz.func50 rfl (by decide) Tryz.ntmps50 Tryz.results50 rfl (aI _) ?_
 repeat' first|refine gq ?_|decide|refine sp ?_ ?_<;>intro _|((with_reducible apply cd (g:=75));exact (BZ m s x.n hl hl2 hl3 ho hd hr hdid);exact (.inr eC))|((with_reducible first|apply ax (g:=102)|apply aL (g:=102));exact (Df s x.n x.u hdid))|((with_reducible first|apply ax (g:=103)|apply aL (g:=103));exact (fZ m s hl hd))|((with_reducible first|apply ax (g:=104)|apply aL (g:=104));exact (JT m s hst hle hl hl2 hl3 ho hd hr hdid))|((with_reducible first|apply ax (g:=101)|apply aL (g:=101));exact (dA s.opn x.n ho))|((with_reducible first|apply ax (g:=101)|apply aL (g:=101));exact (dA s.don x.n hd))
 all_goals first
  | (simp_all [tL,fe];done)
  | (by_cases h2:x.op=2<;>simp_all [tL,fe])
end
section
theorem yI (l:List Int) (hl:l.length<=1000000):aw Tryz.prog 128 [sI l] ⟨sI l,[],0⟩:=by
 refine o6 (e:=3) ?_;refine bj ag Tryz.func128 rfl (by decide) Tryz.ntmps128 Tryz.results128 rfl ?_
 repeat' first|refine go ?_|decide|refine sp ?_ ?_<;>intro _
 intro c hc
 cases c with
 | true=>
  repeat' first|refine go ?_|decide|refine sp ?_ ?_<;>intro _
  exact cI (.inr ⟨rfl,hc rfl⟩)
 | false=>
  repeat' first|refine go ?_|decide|refine sp ?_ ?_<;>intro _
  exact ⟨rfl,by omega,tt rfl (.inl rfl)⟩
theorem JX (zc zg:List (List AV)) (o d:Int) (did cnt:List Int) (h1:did.length<=1000000) (h2:cnt.length<=1000000):aw Tryz.prog 90 [.agg [.sl 2 zc,.sl 1 zg,eI o,eI d,sI did,sI cnt]] ⟨.agg [.c (.slice none 0 0),eI o,eI d,sI did,sI cnt],[],0⟩:=by
 have hok:(⟨.agg [.c (.slice none 0 0),eI o,eI d,sI did,sI cnt],[],0⟩:cS).Ok:=⟨fun id o h=>(by cases h),by simp [AV.lt,AV.ltL]⟩;refine aa ag Tryz.func90 rfl (by decide) Tryz.ntmps90 Tryz.results90 rfl (hok) ?_
 repeat' first|refine go ?_|decide|refine sp ?_ ?_<;>intro _
 refine ay [1] [0,1,2,3,4,5,7,8] (.exec 6 (.exec 9 (.take 10 (.exec 11 .done)))) (by kernel_rfl) (by simp [af.gc]) ?_
 repeat' first|refine gq ?_|decide|refine sp ?_ ?_<;>intro _|((with_reducible apply bJ (g:=128));exact (yI did h1);exact (ro))|((with_reducible apply bJ (g:=128));exact (yI cnt h2);exact (ro))|(with_reducible apply And.intro)
 all_goals exact aV (by first|rfl|simp [AV.ren,AV.renL])
end
section
end
section
def LI (w:World) (v:Value) (l:List Int):Prop:=
 ∃ A c,v=.slice A l.length c /\ l.length<=c /\ (0<l.length -> ∃ b o,A=some ⟨b,o,none⟩ /\ b<w.heap.size /\ ∀ i (h:i<l.length),w.cell? ⟨b,o+i,none⟩=some (.int .i64 l[i]))
theorem LI.below {w w':World} {v:Value} {l:List Int} (h:LI w v l) (hb:Below w.heap.size w w'):LI w' v l:=by
 obtain ⟨A,c,rfl,hc,hr⟩:=h;refine ⟨A,c,rfl,hc,fun hp=>?_⟩;obtain ⟨b,o,hA,hb1,hcell⟩:=hr hp;exact ⟨b,o,hA,Vn hb1 hb.size,fun i hi=>(hb.cell hb1).trans (hcell i hi)⟩
theorem LI.some_ {w:World} {v:Value} {l:List Int} (h:LI w v l) (hp:0<l.length):∃ b o c,v=.slice (some ⟨b,o,none⟩) l.length c /\ l.length<=c /\ b<w.heap.size /\ ∀ i (h:i<l.length),w.cell? ⟨b,o+i,none⟩=some (.int .i64 l[i]):=by
 obtain ⟨A,c,rfl,hc,hr⟩:=h;obtain ⟨b,o,rfl,hb,hcell⟩:=hr hp;exact ⟨b,o,c,rfl,hc,hb,hcell⟩
theorem LI.at_ {w:World} {A:Option Addr} {c:Nat} {l:List Int} (h:LI w (.slice A l.length c) l) {i:Nat} (hi:i<l.length):∃ b o,A=some ⟨b,o,none⟩ /\ b<w.heap.size /\ w.cell? ⟨b,o+i,none⟩=some (.int .i64 l[i]):=by
 obtain ⟨A',c',e,hc,hr⟩:=h;obtain ⟨rfl,_,rfl⟩:A=A' /\ l.length=l.length /\ c=c':=by simpa using e
 obtain ⟨b,o,rfl,hb,hcell⟩:=hr (by omega);exact ⟨b,o,rfl,hb,hcell i hi⟩
theorem kS {B:Nat} {w w':World} (h:Below B w w') (n:Nat):Below B w (w'.drewN n):=h.trans ⟨rfl,rfl,rfl,Vh _,fun _ _=>rfl⟩
end
section
def LN (B:Nat) (w:World) (v:Value) (l:List Int):Prop:=
 ∃ A c,v=.slice A l.length c /\ l.length<=c /\ c<=9223372036854775807 /\ (0<l.length -> ∃ b o,A=some ⟨b,o,none⟩ /\ B<=b /\ b<w.heap.size /\ ∀ i (h:i<l.length),w.cell? ⟨b,o+i,none⟩=some (.int .i64 l[i]))
theorem LN.rt {B:Nat} {w:World} {S:Nat -> Prop} {v:Value} {l:List Int} (h:LN B w v l) (hS:∀ b,B<=b -> b<w.heap.size -> S b):RT w S v (sI l):=by
 obtain ⟨A,c,rfl,h1,h2,h3⟩:=h
 have key:∀ (i j:Nat) (row:List AV) (av:AV),(l.map fun n=>[eI n])[i]? = some row -> row[j]? = some av -> ∃ hi:i<l.length,j=0 /\ av=eI l[i]:=fun i j row av h4 h5=>by
  have hi:i<l.length:=by
   have:=(Vf.1 h4).1;simpa using this
  rw [Ve,p0 hi] at h4;cases h4
  match j with
  | 0=>exact ⟨hi,rfl,by simpa using h5.symm⟩
  | j+1=>simp at h5
 by_cases h0:0<l.length
 .obtain ⟨b,o,rfl,hb,hbs,hcell⟩:=h3 h0;refine .sl _ _ c 1 _ b o (fun i _=>.int .i64 (l.getD i 0)) (by simp) h1 h2 (fun _=>⟨rfl,hS b hb hbs⟩) (fun row hr=>by obtain ⟨n,_,rfl⟩:=Vx.1 hr;rfl) (fun _ i j row av h4 h5=>?_) (fun _ _ _ _ _ _=>rfl) (fun i j row av h4 h5=>?_)
  .obtain ⟨hi,rfl,_⟩:=key i j row av h4 h5;rw [Nat.mul_one,XE,hcell i hi,Vm,p0 hi];rfl
  .obtain ⟨hi,rfl,rfl⟩:=key i j row av h4 h5;rw [Vm,p0 hi];exact .c _
 .have:l=[]:=WO.1 (by omega);subst this;exact .sl A 0 c 1 [] 0 0 (fun _ _=>undef) rfl h1 h2 (fun h=>by omega) (by simp) (fun h=>by omega) (by simp) (by simp)
theorem LI.of_rt {w:World} {S:Nat -> Prop} {v:Value} {l:List Int} (h:RT w S v (sI l)) (hS:Gu w S):LI w v l:=by
 obtain ⟨A,cap,rfl,hc,hm,_,hA⟩:=h.sl_inv;refine ⟨A,cap,by simp,by simpa using hc,fun h0=>?_⟩;obtain ⟨b,o,rfl,hb,U,hcell,hr,_⟩:=hA (by simpa using h0);refine ⟨b,o,rfl,hS b hb,fun i hi=>?_⟩;have h1:(l.map fun n=>[eI n])[i]? = some [eI l[i]]:=by simp [hi]
 have h2:=hcell i 0 _ _ h1 rfl;have h3:=Gn (hr i 0 _ _ h1 rfl);rw [h3] at h2;simpa using h2
theorem Cb {P:Program} {f:FuncId} {args:List AV} {sz:Nat} {rows:List (List AV)} (he:fL P f)
  (h:∀ (S:Nat -> Prop) (w:World) (vs:Array Value),Gu w S -> vs.size=args.length -> (∀ (j:Nat) (v:Value) (av:AV),vs[j]? = some v -> args[j]? = some av -> RT w S v av) ->
   Calls P f vs w fun e w'=>∃ v,e=.returned v /\ (∀ S',(∀ b,w.heap.size<=b -> b<w'.heap.size -> S' b) -> RT w' S' v (.sl sz rows)) /\ Below w.heap.size w w'):aw P f args ⟨.sl sz rows,[],0⟩:=
 ⟨he,fun S w vs h1 h2 h3=>(h S w vs h1 h2 h3).mono fun e w' ⟨v,h4,h5,h6⟩=>⟨v,fun _=>undef,⟨.sl sz rows,[],0⟩,rfl,⟨fun id o h=>(by cases h),by simp [AV.lt]⟩,h4,⟨j0 h6,fun id o h=>(by cases h),fun id id' o o' g h=>(by cases h),fun b hb=>hb.elim⟩,.tree (h5 _ fun b hb hb2=>⟨hb2,⟨.inr hb,fun hX=>hX⟩,fun id o h=>(by cases h)⟩)⟩⟩
end
section
def lI (x:Int) (st:List Int × Bool) (y:Int):List Int × Bool:=
 ((st.1 ++ (if st.2=false /\ x<=y then [x] else [])) ++ (if y ≠ x then [y] else []),st.2 || decide (x<=y))
def gA (x:Int) (l:List Int):List Int × Bool:=l.foldl (lI x) ([],false)
def wT (x:Int) (out:List Int):List Int:=if (gA x out).2 then (gA x out).1 else (gA x out).1 ++ [x]
def bX (l:List Int):List Int:=l.foldl (fun out x=>wT x out) []
theorem pV (x:Int) (l:List Int) (y:Int):gA x (l ++ [y])=lI x (gA x l) y:=by simp [gA]
theorem G7 (x:Int) (l:List Int) (k:Nat) (h:k<l.length):gA x (l.take (k+1))=lI x (gA x (l.take k)) l[k]:=by
 rw [Vi h,pV]
theorem nA (l:List Int) (x:Int):bX (l ++ [x])=wT x (bX l):=by simp [bX]
theorem B9 (l:List Int) (k:Nat) (h:k<l.length):bX (l.take (k+1))=wT l[k] (bX (l.take k)):=by
 rw [Vi h,nA]
theorem oy {p:List Int -> Prop} (h0:p []) (h1:∀ l x,p l -> p (l ++ [x])) (l:List Int):p l:=by
 rw [<- Xt l]
 induction l.reverse with
 | nil=>exact h0
 | cons x r ih=>rw [List.reverse_cons];exact h1 _ _ ih
theorem Az (x:Int) (l:List Int):(gA x l).1.length<=l.length+(if (gA x l).2 then 1 else 0):=by
 induction l using oy with
 | h0=>simp [gA]
 | h1 l y ih=>
  rw [pV];generalize gA x l=st at *;obtain ⟨n,b⟩:=st;cases b<;>by_cases h1:x<=y<;>by_cases h2:y=x<;>simp [lI,h1,h2] at ih ⊢<;>omega
theorem JU (x:Int) (l:List Int):(wT x l).length<=l.length+1:=by
 have:=Az x l;unfold wT;split<;>rename_i h<;>simp [h] at this ⊢<;>omega
theorem fB (l:List Int):(bX l).length<=l.length:=by
 induction l using oy with
 | h0=>simp [bX]
 | h1 l y ih=>rw [nA];have:=JU y (bX l);simp;omega
def Up (l:List Int):Prop:=l.Pairwise (· < ·)
theorem MN (x:Int) (l:List Int) (h:Up l) :
  Up (gA x l).1 /\ (∀ z,z ∈ (gA x l).1 ↔ z ∈ l \/ ((gA x l).2=true /\ z=x)) /\ ((gA x l).2=true ↔ ∃ z ∈ l,x<=z) /\ ((gA x l).2=true -> x ∈ (gA x l).1):=by
 induction l using oy with
 | h0=>simp [gA,Up]
 | h1 l y ih=>
  have hl:Up l:=(WC.1 h).1;have hy:∀ z ∈ l,z<y:=fun z hz=>(WC.1 h).2.2 z hz y (by simp);obtain ⟨i1,i2,i3,i4⟩:=ih hl;rw [pV];generalize gA x l=st at *;obtain ⟨n,b⟩:=st;simp only at i1 i2 i3 i4
  cases b with
  | true=>
   obtain ⟨z,hz,hxz⟩:=i3.1 rfl;have hxy:x<y:=by have:=hy z hz;omega
   have hne:y ≠ x:=(by omega);simp only [lI,Bool.true_or,Bool.true_eq_false,false_and,if_false,Wr,Vo hne];refine ⟨WC.2 ⟨i1,by simp,?_⟩,?_,?_,?_⟩
   .intro a ha c hc;rw [VH] at hc;subst hc;rcases (i2 a).1 ha with h|⟨_,rfl⟩
    .exact hy a h
    .exact hxy
   .intro a;simp only [Vs,VH,i2];constructor
    .rintro ((h | h) | h)
     .exact .inl (.inl h)
     .exact .inr h
     .exact .inl (.inr h)
    .rintro ((h | h) | h)
     .exact .inl (.inl h)
     .exact .inr h
     .exact .inl (.inr h)
   .exact ⟨fun _=>⟨z,by simp [hz],hxz⟩,fun _=>trivial⟩
   .intro _;simp [i4 rfl]
  | false=>
   have hlow:∀ z ∈ l,z<x:=fun z hz=>by
    rcases Int.lt_or_le z x with h|h
    .exact h
    .exact absurd (i3.2 ⟨z,hz,h⟩) (by simp)
   have hn:∀ z,z ∈ n ↔ z ∈ l:=fun z=>by rw [i2];simp
   by_cases hxy:x<=y
   .by_cases hne:y=x
    .subst hne;simp only [lI,Xo,and_self,if_true,ne_eq,not_true,if_false,Wr,decide_true,Bool.or_true];refine ⟨WC.2 ⟨i1,by simp,?_⟩,?_,?_,?_⟩
     .intro a ha c hc;rw [VH] at hc;subst hc;exact hy a ((hn a).1 ha)
     .intro a;simp only [Vs,VH,hn];constructor
      .rintro (h | h)
       .exact .inl (.inl h)
       .exact .inl (.inr h)
      .rintro (h | ⟨_,h⟩)
       .exact h
       .exact .inr h
     .exact ⟨fun _=>⟨y,by simp,Xo _⟩,fun _=>trivial⟩
     .intro _;simp
    .simp only [lI,hxy,and_self,if_true,ne_eq,hne,not_false_eq_true,decide_true,Bool.or_true];refine ⟨?_,?_,?_,?_⟩
     .unfold Up;rw [VZ];refine WC.2 ⟨i1,by simp;omega,?_⟩;intro a ha c hc;have hal:=(hn a).1 ha;have h1:=hlow a hal;have h2:=hy a hal;simp at hc;rcases hc with rfl|rfl
      .exact h1
      .exact h2
     .intro a;simp only [Vs,VH,hn];constructor
      .rintro ((h | h) | h)
       .exact .inl (.inl h)
       .exact .inr ⟨by simp,h⟩
       .exact .inl (.inr h)
      .rintro ((h | h) | ⟨_,h⟩)
       .exact .inl (.inl h)
       .exact .inr h
       .exact .inl (.inr h)
     .exact ⟨fun _=>⟨y,by simp,hxy⟩,fun _=>trivial⟩
     .intro _;simp
   .have hne:y ≠ x:=(by omega);have hd:decide (x<=y)=false:=Vv hxy;simp only [lI,hxy,and_false,if_false,Wr,Vo hne,hd,XQ];refine ⟨WC.2 ⟨i1,by simp,?_⟩,?_,?_,?_⟩
    .intro a ha c hc;rw [VH] at hc;subst hc;exact hy a ((hn a).1 ha)
    .intro a;simp only [Vs,VH,hn];simp
    .constructor
     .intro h;cases h
     .rintro ⟨z,hz,hxz⟩;rcases Vs.1 hz with h|h
      .have:=hlow z h;omega
      .rw [VH] at h;subst h;exact absurd hxz hxy
    .intro h;cases h
theorem OB (x:Int) (l:List Int) (h:Up l):Up (wT x l) /\ ∀ z,z ∈ wT x l ↔ z ∈ l \/ z=x:=by
 obtain ⟨i1,i2,i3,i4⟩:=MN x l h;unfold wT;split
 .rename_i hb;refine ⟨i1,fun z=>?_⟩;rw [i2];simp [hb]
 .rename_i hb
  have hlow:∀ z ∈ l,z<x:=fun z hz=>by
   rcases Int.lt_or_le z x with h|h
   .exact h
   .exact absurd (i3.2 ⟨z,hz,h⟩) hb
  have hn:∀ z,z ∈ (gA x l).1 ↔ z ∈ l:=fun z=>by rw [i2];simp [hb]
  refine ⟨WC.2 ⟨i1,by simp,?_⟩,fun z=>?_⟩
  .intro a ha c hc;rw [VH] at hc;subst hc;exact hlow a ((hn a).1 ha)
  .simp [hn]
theorem iD (l:List Int):Up (bX l) /\ ∀ z,z ∈ bX l ↔ z ∈ l:=by
 induction l using oy with
 | h0=>simp [bX,Up]
 | h1 l x ih=>
  obtain ⟨h1,h2⟩:=OB x _ ih.1;rw [nA];exact ⟨h1,fun z=>by rw [h2,ih.2];simp⟩
theorem Ka:∀ (a b:List Int),Up a -> Up b -> (∀ z,z ∈ a ↔ z ∈ b) -> a=b
 | [],[],_,_,_=>rfl
 | [],y :: b,_,_,h=>by have:=(h y).2 (by simp);simp at this
 | x :: a,[],_,_,h=>by have:=(h x).1 (by simp);simp at this
 | x :: a,y :: b,ha,hb,h=>by
  have ha':=List.pairwise_cons.1 ha;have hb':=List.pairwise_cons.1 hb
  have hxy:x=y:=by
   rcases Wf.1 ((h x).1 (by simp)) with h1|h1
   .exact h1
   .rcases Wf.1 ((h y).2 (by simp)) with h2 | h2
    .exact h2.symm
    .have:=hb'.1 x h1;have:=ha'.1 y h2;omega
  subst hxy;rw [Ka a b ha'.2 hb'.2 (fun z=>?_)];constructor
  .intro hz;rcases Wf.1 ((h z).1 (by simp [hz])) with h1|h1
   .subst h1;have:=ha'.1 z hz;omega
   .exact h1
  .intro hz;rcases Wf.1 ((h z).2 (by simp [hz])) with h1|h1
   .subst h1;have:=hb'.1 z hz;omega
   .exact h1
theorem Cl (d:Array Int) (hs:∀ i j,i<j -> j<d.size -> d[i]! <= d[j]!) (m:Nat) (hm:m<=d.size) :
  Up (Lib.compactUpTo d m) /\ (∀ z,z ∈ Lib.compactUpTo d m ↔ ∃ i,i<m /\ d[i]! = z):=by
 induction m with
 | zero=>simp [Lib.compactUpTo,Up]
 | succ m ih=>
  obtain ⟨h1,h2⟩:=ih (by omega);rw [Lib.compactUpTo_succ];by_cases hk:Lib.keeps d m=true
  .rw [Vo hk];refine ⟨WC.2 ⟨h1,by simp,?_⟩,fun z=>?_⟩
   .intro a ha c hc;rw [VH] at hc;subst hc;obtain ⟨i,hi,rfl⟩:=(h2 a).1 ha;simp only [Lib.keeps,VJ] at hk;have h3:=hs (m - 1) m (by omega) (by omega)
    have h4:d[i]! <= d[m - 1]!:=by
     rcases Vw i (m - 1) with h|h
     .exact hs i (m - 1) h (by omega)
     .rw [show i=m - 1 by omega];exact Xo _
    rcases hk with h|h
    .omega
    .have:d[m]! ≠ d[m - 1]!:=h;omega
   .simp only [Vs,VH,h2];constructor
    .rintro (⟨i,hi,rfl⟩ | rfl)
     .exact ⟨i,by omega,rfl⟩
     .exact ⟨m,by omega,rfl⟩
    .rintro ⟨i,hi,rfl⟩;rcases Vw i m with h|h
     .exact .inl ⟨i,h,rfl⟩
     .exact .inr (by rw [show i=m by omega])
  .rw [Vj hk,Wr];refine ⟨h1,fun z=>?_⟩;rw [h2];simp only [Lib.keeps,VJ,not_or,ne_eq,Decidable.not_not] at hk;constructor
   .rintro ⟨i,hi,rfl⟩;exact ⟨i,by omega,rfl⟩
   .rintro ⟨i,hi,rfl⟩;rcases Vw i m with h|h
    .exact ⟨i,h,rfl⟩
    .exact ⟨m - 1,by omega,by rw [<- hk.2,show i=m by omega]⟩
def qM (l:List Int):List Int:=Lib.compact (l.mergeSort fun x y=>decide (x<=y))
theorem IV (l:List Int):qM l=bX l:=by
 have hp:(l.mergeSort fun x y=>decide (x<=y)).Pairwise (fun a b=>decide (a<=b)=true):=List.pairwise_mergeSort (le:=fun x y=>decide (x<=y)) (fun a b c h1 h2=>by simp at *;omega) (fun a b=>by simp;omega) l;have hm:∀ z,z ∈ (l.mergeSort fun x y=>decide (x<=y)) ↔ z ∈ l:=fun z=>List.mem_mergeSort;unfold qM Lib.compact;generalize (l.mergeSort fun x y=>decide (x<=y))=s at *
 have hs:∀ i j,i<j -> j<s.toArray.size -> s.toArray[i]! <= s.toArray[j]!:=by
  intro i j hij hj;have hj':j<s.length:=by simpa using hj
  have h1:=WH.1 hp i j (by omega) hj' hij;rw [getElem!_pos _ i (by simp;omega),getElem!_pos _ j hj];simpa using h1
 obtain ⟨h1,h2⟩:=Cl s.toArray hs s.length (by simp);refine Ka _ _ h1 (iD l).1 (fun z=>?_);rw [h2,(iD l).2,<- hm];constructor
 .rintro ⟨i,hi,rfl⟩;rw [getElem!_pos _ i (by simpa using hi)];simp
 .intro hz;obtain ⟨i,hi,rfl⟩:=VD hz;exact ⟨i,hi,by rw [getElem!_pos _ i (by simpa using hi)];simp⟩
theorem vS (s:List Int) (n:Int) (h:Up s) (r:Nat) (hr:r<=s.length) (hlo:∀ (h0:0<r),s[r - 1]'(by omega)<n) (hhi:∀ (h1:r<s.length),n<=s[r]) :
  s.countP (fun x=>decide (x<n))=r /\ (decide (r<s.length) && (s[r]? == some n))=decide (n ∈ s):=by
 have hp:=WH.1 h
 have hlow:∀ i (hi:i<r),s[i]'(by omega)<n:=fun i hi=>by
  have h1:=hlo (by omega);rcases Vw i (r - 1) with h2|h2
  .have:=hp i (r - 1) (by omega) (by omega) h2;omega
  .have e:i=r - 1:=(by omega);subst e;exact h1
 have hhigh:∀ i (hi:r<=i) (hi2:i<s.length),n<=s[i]:=fun i hi hi2=>by
  have h1:=hhi (by omega);rcases Vw r i with h2|h2
  .have:=hp r i (by omega) hi2 h2;omega
  .have e:i=r:=(by omega);subst e;exact h1
 constructor
 .rw [<- WY r s,List.countP_append]
  have e1:(s.take r).countP (fun x=>decide (x<n))=(s.take r).length:=List.countP_eq_length.2 (fun a ha=>by
   obtain ⟨i,hi,rfl⟩:=VD ha;rw [Vr] at hi;rw [List.getElem_take];exact Vy (hlow i (by omega)))
  have e2:(s.drop r).countP (fun x=>decide (x<n))=0:=List.countP_eq_zero.2 (fun a ha=>by
   obtain ⟨i,hi,rfl⟩:=VD ha;rw [Wa] at hi;rw [List.getElem_drop];have:=hhigh (r+i) (by omega) (by omega);simp;omega)
  rw [e1,e2,Vr];omega
 .by_cases hm:n ∈ s
  .obtain ⟨i,hi,he⟩:=VD hm;have h1:¬ i<r:=fun h=>by have:=hlow i h;omega
   have h2:=hhi (by omega)
   have h3:i=r:=by
    rcases Vw r i with h4|h4
    .have:=hp r i (by omega) hi h4;omega
    .omega
   subst h3;simp [hm,hi,he]
  .have:¬ (r<s.length /\ s[r]? = some n):=fun ⟨h1,h2⟩=>hm (Os h2);simp only [hm,decide_false];rw [Wi];intro hc;simp only [VB,VJ,Wu] at hc;exact this hc
end
section
theorem Ms (x y:Int) (n:List Int) (h:y=x):lI x (n,true) y=(n,true):=by simp [lI,h]
theorem EK (x y:Int) (n:List Int) (h:y ≠ x):lI x (n,true) y=(n ++ [y],true):=by simp [lI,h]
theorem Oi (x y:Int) (n:List Int) (h1:x<=y) (h:y=x):lI x (n,false) y=(n ++ [x],true):=by simp [lI,h]
theorem Ij (x y:Int) (n:List Int) (h1:x<=y) (h:y ≠ x):lI x (n,false) y=((n ++ [x]) ++ [y],true):=by simp [lI,h,h1]
theorem NC (x y:Int) (n:List Int) (h1:¬ x<=y):lI x (n,false) y=(n ++ [y],false):=by
 have:y ≠ x:=by omega
 simp [lI,h1,this]
end
section
open Go.RowKit Go.Sort
theorem EE:(Tryz.prog.info? 2).map (fun i=>(i.zero,i.size,i.bytes))=some (some (.int .i64 0),1,8):=by kernel_rfl
theorem GB (ba bn b o c:Nat) (l:List Int) (n:Int) (i:Nat) (W:World) (hi:i<l.length)
  (ha:W.cell? ⟨ba,0,none⟩=some (.slice (some ⟨b,o,none⟩) l.length c)) (hn:W.cell? ⟨bn,0,none⟩=some (.int .i64 n)) (hc:W.cell? ⟨b,o+i,none⟩=some (.int .i64 l[i])) :
  Calls Tryz.prog 194 (#[.int .i64 (i:Int)] ++ #[.pointer (some ⟨ba,0,none⟩),.pointer (some ⟨bn,0,none⟩)]) W fun e w'=>e=.returned (.bool (decide (n<=l[i]))) /\ ∃ q,w'=W.drewN q:=by
 generalize l[i]=y at *;have hiz:(i:Int)<(l.length:Int):=by omega
 go_enter Tryz.func194,Tryz.ntmps194
 go_wp2_with fail
 go_quiet (fail)
 go_wp2_with fail
 go_ret
 exact ⟨rfl,_,rfl⟩
theorem Cv (g:FuncId) (cb:Array Value) (n:Nat) (p:Nat -> Bool) (w:World) (eg:∀ args w,(callFunc g args).run Tryz.prog w=.ok (.enter g args) w) (hsz:n<4611686018427387904)
  (hf:∀ (m:Nat) (i:Nat),i<n -> Calls Tryz.prog g (#[.int .i64 i] ++ cb) (w.drewN m) fun e w'=>e=.returned (.bool (p i)) /\ ∃ q,w'=(w.drewN m).drewN q) :
  Calls Tryz.prog 193 #[.int .i64 n,.func (.func g) #[] cb] w fun e w'=>∃ r:Nat,e=.returned (.int .i64 (r:Int)) /\ r<=n /\ (0<r -> p (r - 1)=false) /\ (r<n -> p r=true) /\ ∃ q,w'=w.drewN q:=by
 have HF:=aE hf;clear hf
 go_enter Tryz.func193,Tryz.ntmps193
 go_wp2_with fail
 go_loopw [5,6] (fun s5 s6 wr=>∃ (lo hi q:Nat),s5=.int .i64 (lo:Int) /\ s6=.int .i64 (hi:Int) /\ lo<=hi /\ hi<=n /\ Hid ((0<lo -> p (lo - 1)=false) /\ (hi<n -> p hi=true)) /\ wr=w.drewN q) (fun s5 s6 wr=>(intOf s6).toNat - (intOf s5).toNat)
 case atStart=>exact ⟨0,n,0,rfl,rfl,Vd _,Vh _,aE ⟨fun h=>absurd h (Nat.lt_irrefl _),fun h=>absurd h (Nat.lt_irrefl _)⟩,rfl⟩
 case round=>
  obtain ⟨lo,hi,q,rfl,rfl,hlh,hin,I,rfl⟩:=hrel;by_cases hlt:lo<hi
  .have hc:=HF.out q ((lo+hi) / 2) (by omega);rw [show (((lo+hi) / 2:Nat):Int)=((lo:Int)+(hi:Int)) / 2 by omega] at hc;cases hp:p ((lo+hi) / 2)<;>rw [hp] at hc
   .have HP:=aE hp;clear hp
    go_wp2_with (go_at_fn g;refine hc.mono ?_;rintro e w' ⟨rfl,nq,rfl⟩)
    go_roundw
    case rel=>exact ⟨(lo+hi) / 2+1,hi,q+nq,by rw [show ((lo:Int)+(hi:Int)) / 2+1=(((lo+hi) / 2+1:Nat):Int) by omega],rfl,by omega,hin,aE ⟨fun _=>by rw [WA];exact HP.out,I.out.2⟩,rfl⟩
    case measure=>simp [intOf];omega
   .have HP:=aE hp;clear hp
    go_wp2_with (go_at_fn g;refine hc.mono ?_;rintro e w' ⟨rfl,nq,rfl⟩)
    go_roundw
    case rel=>exact ⟨lo,(lo+hi) / 2,q+nq,rfl,by rw [show ((lo:Int)+(hi:Int)) / 2=(((lo+hi) / 2:Nat):Int) by omega],by omega,by omega,aE ⟨I.out.1,fun _=>HP.out⟩,rfl⟩
    case measure=>simp [intOf];omega
  .obtain rfl:hi=lo:=by omega
   go_wp2_with fail
   go_ret
   exact ⟨hi,rfl,hin,I.out.1,I.out.2,q,rfl⟩
structure Fd (l:List Int) (n:Int) (r:Nat):Prop where
 le:r<=l.length
 lo:∀ (h0:0<r) (h1:r - 1<l.length),l[r - 1]<n
 hi:∀ (h1:r<l.length),n<=l[r]
theorem wo (W:World) (v:Value) (t:TypeId):(W.alloc (.cells #[v] t)).cell? ⟨W.heap.size,0,none⟩=some v:=by
 rw [World.cell?_alloc_at _ _ _ _ (by simp)];rfl
theorem K0 (l:List Int) (n:Int) (v:Value) (w:World) (hl:l.length<=1000000) (h:LI w v l) :
  Calls Tryz.prog 185 #[v,.int .i64 n] w fun e w'=>(∃ r:Nat,e=.returned (.tuple #[.int .i64 (r:Int),.bool (decide (r<l.length) && (l[r]? == some n))]) /\ Fd l n r) /\ Below w.heap.size w w':=by
 have hcf:∀ args w,(callFunc 194 args).run Tryz.prog w=.ok (.enter 194 args) w:=by intro args w;simp [go_sem,Tryz.func194]
 have h0:=h;obtain ⟨A,c,rfl,hc,hr⟩:=h0;generalize hW:(w.alloc (.cells #[.slice A l.length c] 23)).alloc (.cells #[.int .i64 n] 2)=W
 have hWl:W.cell? ⟨w.heap.size,0,none⟩=some (.slice A l.length c):=by
  rw [<- hW];exact (Below.cell ((Below.refl (w.heap.size+1) (w.alloc (.cells #[.slice A l.length c] 23))).alloc (by simp) _) (by simp)).trans (wo w _ _)
 have hWn:W.cell? ⟨w.heap.size+1,0,none⟩=some (.int .i64 n):=by
  rw [<- hW];have:=wo (w.alloc (.cells #[.slice A l.length c] 23)) (.int .i64 n) 2
  rwa [show (w.alloc (.cells #[.slice A l.length c] 23)).heap.size=w.heap.size+1 by simp] at this
 have hbW:Below w.heap.size w W:=by rw [<- hW];exact ((Below.refl _ _).alloc (Vh _) _).alloc (by simp) _
 have hLW:=LI.below h hbW
 have hse:=Cv 194 #[.pointer (some ⟨w.heap.size,0,none⟩),.pointer (some ⟨w.heap.size+1,0,none⟩)] l.length (fun i=>decide (n<=l.getD i 0)) W hcf (by omega) (fun m i hi=>by
  obtain ⟨b,o,rfl,hb,hcell⟩:=hLW.at_ hi;have:=GB w.heap.size (w.heap.size+1) b o c l n i (W.drewN m) hi hWl hWn hcell;rw [show l.getD i 0=l[i] by simp [List.getD,hi]];exact this)
 have Hse:=aE hse;have HbW:=aE hbW;have HLW:=aE hLW;clear hse hbW hLW h hr
 go_enter Tryz.func185,Tryz.ntmps185
 go_wp2_with fail
 refine Hse.out.mono ?_;rintro e w2 ⟨r,rfl,hrl,hlo,hhi,q,rfl⟩
 have hF:Fd l n r:=⟨hrl,fun h0 h1=>by
   have:=hlo h0;rw [show l.getD (r - 1) 0=l[r - 1] by simp [List.getD,h1]] at this;have:=of_decide_eq_false this;omega,fun h1=>by
   have:=hhi h1;rw [show l.getD r 0=l[r] by simp [List.getD,h1]] at this;exact of_decide_eq_true this⟩
 have HF:=aE hF;clear Hse hF hlo hhi hW;have hb2:=aE (kS HbW.out q);by_cases hlt:r<l.length
 .obtain ⟨b,o,rfl,_,hcell⟩:=HLW.out.at_ hlt;have hri:(r:Int)<(l.length:Int):=by omega
  have E:=aE (show (decide (r<l.length) && (l[r]? == some n))=(l[r] == n) by simp [hlt]);generalize l[r]=y at *;have hyn:∃ B,B=(y == n):=⟨_,rfl⟩;obtain ⟨B,hB⟩:=hyn;rw [<- hB] at E;have hB2:=hB.symm;clear hB
  go_wp2_with fail
  go_quiet (fail)
  go_wp2_with fail
  go_ret2
  exact ⟨⟨r,by rw [E.out];rfl,HF.out⟩,kS hb2.out _⟩
 .obtain rfl:r=l.length:=by omega
  have E:=aE (show (decide (l.length<l.length) && (l[l.length]? == some n))=false by simp)
  go_wp2_with fail
  go_quiet (fail)
  go_wp2_with fail
  go_ret2
  exact ⟨⟨l.length,by rw [E.out];rfl,HF.out⟩,kS hb2.out _⟩
end
section
open Go.RowKit Go.Sort
theorem zo (S:List Int):(Lib.compact S).length<=S.length:=by
 unfold Lib.compact Lib.compactUpTo;rw [Vp];have:=List.length_filter_le (Lib.keeps S.toArray) (List.range S.length);simpa using this
theorem Dc (A:Option Addr) (c:Nat) (w:World) :
  Calls Tryz.prog 195 #[.slice A 0 c] w fun e w'=>(∃ A' c',e=.returned (.slice A' 0 c') /\ c'<=9223372036854775807) /\ Below w.heap.size w w':=by
 cases A with
 | none=>exact (Tryz.slices_Clone_nil 0 c w).mono (by rintro e w' ⟨rfl,rfl⟩;exact ⟨⟨_,_,rfl,by decide⟩,Below.refl _ _⟩)
 | some a=>
  obtain ⟨i0,hi0,hz0,hz1,hz2⟩:=info_parts EE;have q22:∀ (w:World) (a:Option Addr) (n c n' c':Nat),(binOp .eql 23 (.slice a n c) (.slice none n' c')).run Tryz.prog w=.ok (.bool a.isNone) w:=fun w a n c n' c'=>Lib.run_eql_slice_nil w _ _ a n c n' c' Tryz.underlying23
  go_enter Tryz.func195,Tryz.ntmps195
  go_wp2_with fail
  go_ret
  exact ⟨⟨_,_,rfl,by decide⟩,(Below.refl _ _).alloc (Vh _) _⟩
theorem H8 (A:Option Addr) (c:Nat) (w:World) :
  Calls Tryz.prog 200 #[.slice A 0 c,.int .i64 0,.int .i64 0] w fun e w'=>e=.returned (.tuple #[]) /\ Below w.heap.size w w':=by
 go_enter Tryz.func200,Tryz.ntmps200
 go_wp2_with fail
 go_loopw [6] (fun i wr=>i=.int .i64 1 /\ Below w.heap.size w wr) (fun i wr=>0)
 case atStart=>exact ⟨rfl,Below.refl _ _⟩
 case round=>
  obtain ⟨rfl,hbl⟩:=hrel
  go_wp2_with fail
  go_end0
  exact ⟨rfl,hbl⟩
theorem Kf (A:Option Addr) (c:Nat) (L:Int) (w:World) :
  Calls Tryz.prog 198 #[.slice A 0 c,.int .i64 0,.int .i64 0,.int .i64 L] w fun e w'=>e=.returned (.tuple #[]) /\ Below w.heap.size w w':=by
 go_enter Tryz.func198,Tryz.ntmps198
 go_wp2_with fail
 go_loopw [1,2] (fun a b wr=>a=.int .i64 0 /\ b=.int .i64 0 /\ Below w.heap.size w wr) (fun a b wr=>0)
 case atStart=>exact ⟨rfl,rfl,Below.refl _ _⟩
 case round=>
  obtain ⟨rfl,rfl,hbl⟩:=hrel;have h:=H8 A c wr
  go_wp2_with fail
  refine h.mono ?_;rintro e w2 ⟨rfl,hb2⟩
  go_wp2_with fail
  refine bodyPost_ret (results_none rfl _ _ _) rfl ?_;exact ⟨rfl,hbl.trans (hb2.mono hbl.size)⟩
theorem FO (A:Option Addr) (c:Nat) (w:World) :
  Calls Tryz.prog 196 #[.slice A 0 c] w fun e w'=>e=.returned (.tuple #[]) /\ Below w.heap.size w w':=by
 have h1:=Tryz.bits_Len 0 w (by decide) (by decide);generalize Lib.bitLen (0:Int).toNat=L at *;have h2:=Kf A c L w
 go_enter Tryz.func196,Tryz.ntmps196
 go_wp2_with fail
 refine h1.mono ?_;rintro e w2 ⟨rfl,rfl⟩
 go_wp2_with fail
 refine h2.mono ?_;rintro e w3 ⟨rfl,hb⟩
 go_wp2_with fail
 go_end0
 exact ⟨rfl,hb⟩
theorem t5 (v:Value) (w:World) (h:LI w v []) :
  Calls Tryz.prog 186 #[v] w fun e w'=>∃ v',e=.returned v' /\ LN w.heap.size w' v' (qM []) /\ Below w.heap.size w w':=by
 obtain ⟨A,c,rfl,hc,_⟩:=h;have h1:=Dc A c w;simp only [Wq]
 go_enter Tryz.func186,Tryz.ntmps186
 go_wp2_with fail
 refine h1.mono ?_;rintro e w2 ⟨⟨A',c',rfl,hc9⟩,hb2⟩;have h2:=FO A' c' w2
 go_wp2_with fail
 refine h2.mono ?_;rintro e w3 ⟨rfl,hb3⟩;have h3:=Tryz.slices_Compact_int_empty A' c' w3
 go_wp2_with fail
 refine h3.mono ?_;rintro e w4 ⟨rfl,rfl⟩
 go_wp2_with fail
 go_ret
 rw [show qM []=[] by simp [qM,Lib.compact,Lib.compactUpTo]];exact ⟨_,rfl,⟨A',c',rfl,Vd _,hc9,fun h=>absurd h (by simp)⟩,hb2.trans (hb3.mono hb2.size)⟩
end
section
open Go.RowKit Go.Sort
theorem so (l:List Int) (v:Value) (w:World) (hl:l.length<=1000000) (hp:0<l.length) (h:LI w v l) :
  Calls Tryz.prog 186 #[v] w fun e w'=>∃ v',e=.returned v' /\ LN w.heap.size w' v' (qM l) /\ Below w.heap.size w w':=by
 obtain ⟨i0,hi0,hz0,hz1,hz2⟩:=info_parts EE;obtain ⟨b,o,c,rfl,hc,hb,hcell⟩:=h.some_ hp
 have h1:=Tryz.slices_Clone i0 (.int .i64 0) 1 8 hi0 hz0 hz1 hz2 rfl (by decide) Tryz.sizeOf2 b o l.length c (l.map (Value.int .i64)) w (by simp) (by unfold maxLen;omega) (by omega)
  (fun j u hj=>by
   rw [Ve] at hj;rcases Vw j l.length with hlt|hge
   .rw [p0 hlt] at hj;obtain rfl:Value.int .i64 l[j]=u:=by simpa using hj
    exact hcell j hlt
   .rw [Vt hge] at hj;simp at hj)
  (fun u hu=>by obtain ⟨x,_,rfl⟩:=Vx.1 hu;rfl)
 have H1:=aE h1;clear h1;unfold qM;have hSl:(l.mergeSort fun x y=>decide (x<=y)).length=l.length:=List.length_mergeSort ..;generalize hSd:(l.mergeSort fun x y=>decide (x<=y))=S at *;have HSd:=aE hSd;have HSl:=aE hSl;clear hSd hSl
 go_enter Tryz.func186,Tryz.ntmps186
 go_wp2_with fail
 refine H1.out.mono ?_;rintro e w1 ⟨v',rfl,hown,hnn,hb1⟩;obtain ⟨_,⟨_,hn0⟩|⟨g,cap,cur,rfl,hbase,hblk,hn,hcap,hcs,htake⟩⟩:=hown
 .omega
 rw [Nat.mul_one] at htake;have hg:g<w1.heap.size:=(VK.1 hblk).1;have hH:=holds_of_blockI hblk htake;have h2:=Tryz.slices_Sort_int g 0 cap l w1 hH hg (by omega);rw [HSd.out] at h2;have H2:=aE h2;clear h2 H1 hH
 go_wp2_with fail
 refine H2.out.mono ?_;rintro e w2 ⟨rfl,n,os,rfl⟩;have hSl:=HSl.out;have hown2:=ownsRow_sortedI (n:=n) (os:=os) (ts:=S) hSl hbase hblk hn hcap hcs;have hgr2:=grownBy_sortedI (w:=w1) (g:=g) (n:=n) (os:=os) S.toArray;generalize Go.Sort.grow (putRow (Value.int .i64) (Sort.ahead w1 n) g 0 S.toArray) os=w2 at *;have hb2:Below w.heap.size w w2:=hb1.grown hgr2 hb1.size (fun j hj=>by cases hj;exact hbase);obtain ⟨_,⟨hx,_⟩|⟨g',cap',cur2,hv,_,hblk2,_,_,hcs2,htake2⟩⟩:=hown2
 .cases hx
 cases hv;rw [Nat.mul_one,<- hSl] at htake2;have hg2:g<w2.heap.size:=(VK.1 hblk2).1;have hH2:=holds_of_blockI hblk2 htake2;have h3:=Tryz.slices_Compact_int g 0 cap S w2 hH2 (by omega) (by omega);rw [hSl] at h3;have H3:=aE h3;have hcl:=zo S;clear h3 H2 hH2
 go_wp2_with fail
 refine H3.out.mono ?_;rintro e w3 ⟨rfl,q,hw3⟩;have hown3:=ownsRow_sortedI (n:=q) (os:=#[]) (ss:=S) (ts:=Lib.compact S ++ List.replicate (S.length - (Lib.compact S).length) 0) (by simp;omega) hbase hblk2 (by omega) hcap hcs2;have hgr3:=grownBy_sortedI (w:=w2) (g:=g) (n:=q) (os:=#[]) (Lib.compact S ++ List.replicate (S.length - (Lib.compact S).length) 0).toArray;rw [grow_empty] at hown3 hgr3;rw [hSl] at hown3 hgr3;rw [<- hw3] at hown3 hgr3;have hb3:Below w.heap.size w w3:=hb2.grown hgr3 hb2.size (fun j hj=>by cases hj;exact hbase)
 have hLI:LN w.heap.size w3 (.slice (some ⟨g,0,none⟩) (Lib.compact S).length cap) (Lib.compact S):=by
  refine ⟨_,_,rfl,by omega,by unfold maxLen at hcap;omega,fun _=>⟨g,0,rfl,hbase,?_,fun i hi=>?_⟩⟩
  .have:=hgr3.size;omega
  .rw [WT];exact j8 hown3 rfl (by rw [Ve,VO hi,p0 hi];rfl)
 clear hw3 H3 hown3 hgr3 hblk hblk2 htake htake2
 go_wp2_with fail
 go_ret
 exact ⟨_,rfl,hLI,hb3⟩
theorem uZ (l:List Int) (v:Value) (w:World) (hl:l.length<=1000000) (h:LI w v l) :
  Calls Tryz.prog 186 #[v] w fun e w'=>∃ v',e=.returned v' /\ LN w.heap.size w' v' (qM l) /\ Below w.heap.size w w':=by
 cases l with
 | nil=>exact t5 v w h
 | cons x l=>exact so (x :: l) v w hl (by simp) h
end
end
end Go.Proofs.YtmmoidfcfjklaaaGreat
