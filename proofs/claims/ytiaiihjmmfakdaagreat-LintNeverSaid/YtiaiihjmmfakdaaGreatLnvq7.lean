/-
  Parts of the proof: Lnvp21, Lnvp22, Lnvp23, Lnvp24, Lnvp25, Lnvp26, Lnvp27.
-/
import Derived.Test.YtiaiihjmmfakdaaGreatLnvq6
import Derived.Lib.ItoaNum
import Derived.Lib.Join
import Derived.Test.YtiaiihjmmfakdaaGreatSortShelf
import Derived.Sort.OwnSortedInts
import Derived.Shelf.Strconv.Itoa3
import Derived.Test.YtiaiihjmmfakdaaGreatProg
set_option linter.unusedVariables false
set_option linter.unusedSimpArgs false
set_option linter.defProp false
set_option maxRecDepth 100000
set_option maxHeartbeats 16000000
namespace Go.Proofs.YtiaiihjmmfakdaaGreat
open Go.RowKit
section
section
abbrev Cp (l:List Int):List (List AV):=l.map fun n=>[eI n]
def mu (e:TypeId) (sz:Nat) (rows:List (List AV)) (R:bS):Prop:=(∃ rows0,R=cu e sz rows0 /\ j7 (.sl sz rows0) (.sl sz rows)) \/ (R=val (.slice none 0 0) /\ rows=[])
theorem ke {P:Program} {f:FuncId} {args:List AV} (e:TypeId) {sz:Nat} {rows:List (List AV)} (h:bh P f args (mu e sz rows)):ap P f args ⟨.sl sz rows,[],0⟩:=
 h.tree (by simp [AV.lt]) fun R hR=>by
  rcases hR with ⟨rows0,rfl,hf⟩|⟨rfl,rfl⟩
  .refine ⟨[0],?_⟩;have e:((cu e sz rows0).frzs [0]).r=.sl sz rows0:=(by simp [bS.frzs,bS.frz,cu,ag.gc,AV.frz]);rw [e];exact ⟨trivial,.one (.one hf)⟩
  .exact ⟨[],trivial,.one (.one (.nil sz))⟩
theorem zl {e:TypeId} {sz:Nat} {rows:List (List AV)} (h:rows=[]):mu e sz rows (val (.slice none 0 0)):=.inr ⟨rfl,h⟩
theorem mU {e:TypeId} {sz:Nat} {rows:List (List AV)}:mu e sz rows (cu e sz rows):=.inl ⟨_,rfl,.refl _⟩
theorem zx {e:TypeId} {a b:AV} {sz:Nat}:mu e 3 [[a,b,.sl sz []]] (cu e 3 [[a,b,.c (.slice none 0 0)]]):=.inl ⟨_,rfl,.rows ⟨⟨.refl _,.refl _,.nil _,trivial⟩,trivial⟩⟩
noncomputable def j3 (m:aF) (s:St):List Mv:=if fh m s m.events.length=[] then [⟨-1,-1,[]⟩] else fh m s m.events.length
noncomputable def gu (m:aF) (s:St):List Mv:=if fe m s=true then j3 m s else []
theorem mC (m:aF) (s:St):∀ e,(fh m s e).length<=m.users.length * e
 | 0=>by simp [fh]
 | e+1=>by
  have h1:=mC m s e;have h2:=iU (fun u=>bf m s (e:Int) (u:Int)) m.users.length;rw [fh,I0,Nat.mul_add];simp only [kc,qX,Jd];omega
theorem yG (m:aF) (s:St) (hm:iJ m) (hs:iK s):ap Tryz.prog 67 [.agg (am m),.agg (cJ s)] ⟨nV (gu m s),[],0⟩:=by
 refine ke 82 ?_;refine ay ae Tryz.func67 rfl (by decide) Tryz.ntmps67 Tryz.results67 rfl ?_;have hf:=hm.fit;obtain ⟨hgl,hml,hsl,hel,hal,hul,hrl,hsol,hol,hil⟩:=id hf.sizes;have hC:=sq m s (by omega) hs.ok.opn hs.ok.don hs.ok.did
 cases hc:fe m s with
 | false=>
  rw [hc] at hC;have e:gu m s=[]:=by simp [gu,hc]
  rw [e]
  repeat' first|refine gq ?_|decide|refine sp ?_ ?_<;>intro _|refine cA hC ?_|fail
  all_goals exact co (zl rfl)
 | true=>
  rw [hc] at hC;have e:gu m s=j3 m s:=by simp [gu,hc]
  rw [e]
  repeat' first|refine gq ?_|decide|refine sp ?_ ?_<;>intro _|refine cA hC ?_|fail
  refine af (fun st=>∃ e:Nat,e<=m.events.length /\ st=⟨56,[(2,.op 0 0 0),(3,.op 1 0 0),(5,.osl 2),(6,eI (e:Int))],[(0,some (.box 32 (am m))),(1,some (.box 47 (cJ s))),(2,some (.row 82 3 ((fh m s e).map oU)))],3⟩) (fun st=>m.events.length - aw st 6) ⟨_,((aW 5 82 3 (by simp only [f9,ai.get,a7,ai.put,↓reduceIte,reduceCtorEq,Nat.reduceLT,Nat.reduceEqDiff,Nat.reduceAdd,Nat.reduceLeDiff,eq_self,implies_true,fh,Jo])).trans (wS [0,1,2] (kf @fh.eq_1 @fh.eq_2))),0,IY _,rfl⟩ ?_;rintro _ ⟨e,he,rfl⟩;by_cases hlt:e<m.events.length
  .obtain ⟨x,hx⟩:∃ x,x=m.events[e]:=⟨_,rfl⟩;have hrx:(m.events.map mt)[e]?.getD []=mt x:=by rw [hx];simp [hlt]
   have hxs:x.sets.length<=10:=hf.events x (hx ▸ IZ hlt);have hWho:=zc m s (e:Int) (by omega) (by omega) (by omega) hs.ok.opn hs.ok.don hm.roles hs.ok.did;have hWhoT:ap Tryz.prog 101 [.agg (am m),.agg (cJ s),eI (e:Int)] ⟨sI (qX m s (e:Int)),[],0⟩:=ap.still [0] hWho (by simp [bS.frzs,bS.frz,cu,ag.gc,AV.frz]) (by simp [AV.lt]);have hwl:=iU (fun u=>bf m s (e:Int) (u:Int)) m.users.length;have hwl2:(qX m s (e:Int)).length<=m.users.length:=hwl
   have hme:kc m s e=(qX m s (e:Int)).map fun u=>⟨(e:Int),u,List.replicate x.sets.length 0⟩:=by
    simp [kc,hx,hlt]
   have hms:fh m s (e+1)=fh m s e ++ kc m s e:=rfl;have hml2:=mC m s e;have hmul:=Nat.mul_le_mul hul (show e<=10 by omega);obtain ⟨w,hw⟩:∃ w,w=qX m s (e:Int):=⟨_,rfl⟩;rw [<- hw] at hWhoT hwl2 hme;have hr0:List.replicate x.sets.length [AV.c (.int .i64 0)]=Cp (List.replicate x.sets.length 0):=(by simp)
   repeat' first|refine ge (kf @hrx @hlt) ?_|decide|refine sp ?_ ?_<;>intro _
   have hsh:(sI w).shift 3=sI w:=rfl;refine dJ hWhoT (ro) ?_
   repeat' first|refine ge @hsh ?_|decide|refine sp ?_ ?_<;>intro _
   refine af (fun st=>∃ k:Nat,k<=w.length /\ st=⟨56,[(2,.op 0 0 0),(3,.op 1 0 0),(5,.osl 2),(6,eI (e:Int)),(7,sI w),(8,eI (k:Int))],[(0,some (.box 32 (am m))),(1,some (.box 47 (cJ s))),(2,some (.row 82 3 ((fh m s e ++ (kc m s e).take k).map oU)))],3⟩) (fun st=>w.length - aw st 8) ⟨_,(wE @I5),0,IY _,rfl⟩ ?_;rintro _ ⟨k,hk,rfl⟩;by_cases hlk:k<w.length
   .obtain ⟨u,hu⟩:∃ u,u=w[k]:=⟨_,rfl⟩;have hru:(Cp w)[k]?.getD []=[eI u]:=by rw [hu];simp [hlk]
    have et:(fh m s e ++ (kc m s e).take (k+1)).map oU=(fh m s e ++ (kc m s e).take k).map oU ++ [[eI (e:Int),eI u,sI (List.replicate x.sets.length 0)]]:=by
     have h1:k<(kc m s e).length:=by rw [hme];simpa using hlk
     have h2:(kc m s e)[k]=⟨(e:Int),u,List.replicate x.sets.length 0⟩:=(by simp [hme,hu]);rw [Jb h1,h2];simp
    have htl:((fh m s e ++ (kc m s e).take k).map oU).length<=300:=by
     rw [Jd,I0,Jf];omega
    obtain ⟨L,hL⟩:∃ L,L=(fh m s e ++ (kc m s e).take k).map oU:=⟨_,rfl⟩;rw [<- hL] at et htl ⊢
    repeat' first|refine ge @hlk ?_|decide|refine sp ?_ ?_<;>intro _
    refine bk [2] [0,1,2,3,4,5,6,7,8,9,10,11,12] (.exec 13 (.take 14 (.exec 15 (.exec 16 (.exec 17 .done))))) (by kernel_rfl) (by simp [ag.gc]) ?_
    repeat' first|refine gf (kf @hru (kf @hrx (kf @hlt (kf @hlk hr0)))) ?_|decide|refine sp ?_ ?_<;>intro _|(with_reducible apply And.intro)
    all_goals first
     | rfl
     | omega
     | exact rI (wS [0,1,5] (kf et hL)) ⟨k+1,by omega,rfl⟩
   .obtain rfl:k=w.length:=by omega
    have hall:(kc m s e).take w.length=kc m s e:=Jp (by rw [hme,Jd];exact I6 _);rw [hall,<- hms]
    repeat' first|refine gf @hlk ?_|decide|refine sp ?_ ?_<;>intro _
    all_goals exact rI wC ⟨e+1,by omega,rfl⟩
  .obtain rfl:e=m.events.length:=by omega
   have hml2:=mC m s m.events.length;obtain ⟨M,hM⟩:∃ M,M=fh m s m.events.length:=⟨_,rfl⟩;by_cases h0:M=[]
   .have hl:j3 m s=[⟨-1,-1,[]⟩]:=I8 (by rw [<- hM];exact h0);rw [hl,<- hM,h0];have q0:(((0:Nat):Int) == 0)=true:=rfl
    repeat' first|refine gf (kf @hlt q0) ?_|decide|refine sp ?_ ?_<;>intro _|(with_reducible apply And.intro)
    all_goals first
     | rfl
     | omega
     | exact kE rfl zx
     | exact kE rfl mU
   .have hl:j3 m s=M:=by rw [hM];exact I4 (by rw [<- hM];exact h0)
    have hpos:=List.length_pos_iff.2 h0;have q0:((M.length:Int) == 0)=false:=Jz.2 (by omega);rw [hl,<- hM]
    repeat' first|refine gf (kf @hlt q0) ?_|decide|refine sp ?_ ?_<;>intro _
    all_goals exact kE rfl mU
end
section
def fX (m:aF) (k:Nat):Int:=(m.guards.take k).foldl (fun a g=>ba a g.stage) 0
theorem oT (m:aF) {k:Nat} (hk:k<m.guards.length):fX m (k+1)=ba (fX m k) m.guards[k].stage:=by
 unfold fX;rw [Jb hk,List.foldl_append];rfl
theorem sE (m:aF) (i:Int) (hi:0<=i /\ i<31):∀ k,k<=m.guards.length -> (aR (fX m k) i=true ↔ ∃ g ∈ m.guards.take k,g.stage=i)
 | 0,_=>by simp [fX,aR]
 | k+1,hk=>by
  rw [oT m (by omega),er,Jb (by omega)];simp only [Kg,I2,Je,beq_iff_eq,Ja,Jg];rw [sE m i hi k (by omega)];constructor
  .rintro (⟨_,h⟩ | ⟨g,h1,h2⟩)
   .exact ⟨_,.inr rfl,h.symm⟩
   .exact ⟨g,.inl h1,h2⟩
  .rintro ⟨g,h1 | rfl,h2⟩
   .exact .inr ⟨g,h1,h2⟩
   .exact .inl ⟨by omega,h2.symm⟩
theorem wl (m:aF) {i:Int} (hi:0<=i /\ i<31):aR (fX m m.guards.length) i=true ↔ F5 m i:=by
 rw [sE m i hi _ (I6 _),I9];exact Iff.rfl
theorem nj (m:aF) (hl:m.guards.length<=1000000):ap Tryz.prog 44 [.agg (am m)] (val (.int .i64 (fX m m.guards.length))):=by
 refine aa ae Tryz.func44 rfl (by decide) Tryz.ntmps44 Tryz.results44 rfl (aq _) ?_
 repeat' first|refine go ?_|decide|refine sp ?_ ?_<;>intro _
 refine af (fun st=>∃ k:Nat,k<=m.guards.length /\ st=⟨19,[(1,.op 0 0 0),(3,eI (fX m k)),(7,.sl 3 (m.guards.map xL)),(8,eI (m.guards.length:Int)),(9,eI (k:Int))],[(0,some (.box 32 (am m)))],1⟩) (fun st=>m.guards.length - aw st 9) ⟨_,(wE (kf @fX.eq_1 (kf @I5 @Kv))),0,IY _,rfl⟩ ?_;rintro _ ⟨k,hk,rfl⟩;by_cases hlt:k<m.guards.length
 .have e1:=oT m hlt;obtain ⟨g,hg⟩:∃ g,g=m.guards[k]:=⟨_,rfl⟩;have hrg:(m.guards.map xL)[k]?.getD []=xL g:=by rw [hg];simp [hlt]
  rw [<- hg] at e1
  repeat' first|refine gf (kf @hlt @hrg) ?_|decide|refine sp ?_ ?_<;>intro _|((with_reducible first|apply ak (g:=43)|apply aD (g:=43));exact (jL (fX m k) g.stage))
  all_goals exact rI (wE e1) ⟨k+1,by omega,rfl⟩
 .obtain rfl:k=m.guards.length:=by omega
  repeat' first|refine gf @hlt ?_|decide|refine sp ?_ ?_<;>intro _
def uB (m:aF):Int:=m.stages.foldl (fun a p=>ba a p.2) (m.events.foldl (fun a e=>ba a e.stage) (m.miles.foldl (fun a g=>ba a g.stage) 0))
theorem x4 (m:aF) (hm:m.miles.length<=1000000) (he:m.events.length<=1000000) (hs:m.stages.length<=1000000):ap Tryz.prog 45 [.agg (am m)] (val (.int .i64 (uB m))):=by
 refine aa ae Tryz.func45 rfl (by decide) Tryz.ntmps45 Tryz.results45 rfl (aq _) ?_;obtain ⟨V,hV⟩:∃ V,V=uB m:=⟨_,rfl⟩;rw [<- hV];unfold uB at hV
 repeat' first|refine go ?_|decide|refine sp ?_ ?_<;>intro _
 refine af (fun st=>∃ k:Nat,k<=m.miles.length /\ st=⟨47,[(1,.op 0 0 0),(3,eI ((m.miles.take k).foldl (fun a g=>ba a g.stage) 0)),(11,.sl 5 (m.miles.map ri)),(12,eI (m.miles.length:Int)),(13,eI (k:Int))],[(0,some (.box 32 (am m)))],1⟩) (fun st=>m.miles.length - aw st 13) ⟨_,(wE (kf @I5 @Kv)),0,IY _,rfl⟩ ?_;rintro _ ⟨k,hk,rfl⟩;by_cases hlt:k<m.miles.length
 .have e1:=jh (fun a (g:Ml)=>ba a g.stage) 0 m.miles hlt;obtain ⟨v,hv⟩:∃ v,v=(m.miles.take k).foldl (fun a g=>ba a g.stage) 0:=⟨_,rfl⟩;obtain ⟨g,hg⟩:∃ g,g=m.miles[k]:=⟨_,rfl⟩;have hrg:(m.miles.map ri)[k]?.getD []=ri g:=by rw [hg];simp [hlt]
  rw [<- hg,<- hv] at e1;rw [<- hv]
  repeat' first|refine gf (kf @hlt @hrg) ?_|decide|refine sp ?_ ?_<;>intro _|((with_reducible first|apply ak (g:=43)|apply aD (g:=43));exact (jL v g.stage))
  all_goals exact rI (wE e1) ⟨k+1,by omega,rfl⟩
 .obtain rfl:k=m.miles.length:=by omega
  rw [I9];obtain ⟨v0,hv0⟩:∃ v,v=m.miles.foldl (fun a g=>ba a g.stage) 0:=⟨_,rfl⟩;rw [<- hv0] at hV ⊢
  repeat' first|refine gf @hlt ?_|decide|refine sp ?_ ?_<;>intro _
  refine af (fun st=>∃ k:Nat,k<=m.events.length /\ st=⟨47,[(1,.op 0 0 0),(3,eI ((m.events.take k).foldl (fun a e=>ba a e.stage) v0)),(23,.sl 5 (m.events.map mt)),(24,eI (m.events.length:Int)),(25,eI (k:Int))],[(0,some (.box 32 (am m)))],1⟩) (fun st=>m.events.length - aw st 25) ⟨_,(wE (kf @I5 @Kv)),0,IY _,rfl⟩ ?_;rintro _ ⟨k,hk,rfl⟩;by_cases hlt2:k<m.events.length
  .have e1:=jh (fun a (g:Ev)=>ba a g.stage) v0 m.events hlt2;obtain ⟨v,hv⟩:∃ v,v=(m.events.take k).foldl (fun a e=>ba a e.stage) v0:=⟨_,rfl⟩;obtain ⟨g,hg⟩:∃ g,g=m.events[k]:=⟨_,rfl⟩;have hrg:(m.events.map mt)[k]?.getD []=mt g:=by rw [hg];simp [hlt2]
   rw [<- hg,<- hv] at e1;rw [<- hv]
   repeat' first|refine gf (kf @hlt2 @hrg) ?_|decide|refine sp ?_ ?_<;>intro _|((with_reducible first|apply ak (g:=43)|apply aD (g:=43));exact (jL v g.stage))
   all_goals exact rI (wE e1) ⟨k+1,by omega,rfl⟩
  .obtain rfl:k=m.events.length:=by omega
   rw [I9];obtain ⟨v1,hv1⟩:∃ v,v=m.events.foldl (fun a e=>ba a e.stage) v0:=⟨_,rfl⟩;rw [<- hv1] at hV ⊢
   repeat' first|refine gf @hlt2 ?_|decide|refine sp ?_ ?_<;>intro _
   refine af (fun st=>∃ k:Nat,k<=m.stages.length /\ st=⟨47,[(1,.op 0 0 0),(3,eI ((m.stages.take k).foldl (fun a p=>ba a p.2) v1)),(35,.sl 2 (m.stages.map rh)),(36,eI (m.stages.length:Int)),(37,eI (k:Int))],[(0,some (.box 32 (am m)))],1⟩) (fun st=>m.stages.length - aw st 37) ⟨_,(wE (kf @I5 @Kv)),0,IY _,rfl⟩ ?_;rintro _ ⟨k,hk,rfl⟩;by_cases hlt3:k<m.stages.length
   .have e1:=jh (fun a (g:ByteArray × Int)=>ba a g.2) v1 m.stages hlt3;obtain ⟨v,hv⟩:∃ v,v=(m.stages.take k).foldl (fun a p=>ba a p.2) v1:=⟨_,rfl⟩;obtain ⟨g,hg⟩:∃ g,g=m.stages[k]:=⟨_,rfl⟩;have hrg:(m.stages.map rh)[k]?.getD []=rh g:=by rw [hg];simp [hlt3]
    rw [<- hg,<- hv] at e1;rw [<- hv]
    repeat' first|refine gf (kf @hlt3 @hrg) ?_|decide|refine sp ?_ ?_<;>intro _|((with_reducible first|apply ak (g:=43)|apply aD (g:=43));exact (jL v g.2))
    all_goals exact rI (wE e1) ⟨k+1,by omega,rfl⟩
   .obtain rfl:k=m.stages.length:=by omega
    rw [I9,<- hV]
    repeat' first|refine gf @hlt3 ?_|decide|refine sp ?_ ?_<;>intro _
def jX (m:aF):List az:=(m.guards.flatMap fun g=>g.cond) ++ (m.miles.flatMap fun g=>g.cond)
theorem fK {α:Type} (f:α -> List az) (b:Nat):∀ l:List α,(∀ x ∈ l,(f x).length<=b) -> (l.flatMap f).length<=l.length * b
 | [],_=>by simp
 | x :: l,h=>by
  have h1:=fK f b l fun y hy=>h y (J0 _ hy);have h2:=h x J2;rw [JY,I0,Jh,Nat.succ_mul];omega
theorem oX {α:Type} (f:α -> List az) (l:List α) {k:Nat} (hk:k<l.length):(l.take (k+1)).flatMap f=(l.take k).flatMap f ++ f l[k]:=by
 rw [Jb hk,List.flatMap_append];simp
theorem B6 (m:aF) (hf:iC m):ap Tryz.prog 94 [.agg (am m)] ⟨aV (jX m),[],0⟩:=by
 refine ke 118 ?_;refine ay ae Tryz.func94 rfl (by decide) Tryz.ntmps94 Tryz.results94 rfl ?_;obtain ⟨hgl,hml,-⟩:=id hf.sizes
 have hA:∀ k,((m.guards.take k).flatMap fun g=>g.cond).length<=1200:=fun k=>by
  have h1:=fK (fun g:Gd=>g.cond) 80 (m.guards.take k) fun g h=>hf.guards g (JE h);have h2:=KG k m.guards;have h3:=Jm 80 (Jn (List.length_take_le' k m.guards) hgl);omega
 have hB:∀ k,((m.miles.take k).flatMap fun g=>g.cond).length<=1200:=fun k=>by
  have h1:=fK (fun g:Ml=>g.cond) 80 (m.miles.take k) fun g h=>hf.miles g (JE h);have h3:=Jm 80 (Jn (List.length_take_le' k m.miles) hml);omega
 repeat' first|refine go ?_|decide|refine sp ?_ ?_<;>intro _
 refine af (fun st=>∃ k:Nat,k<=m.guards.length /\ st=⟨33,[(1,.op 0 0 0),(3,.osl 1),(9,.sl 3 (m.guards.map xL)),(10,eI (m.guards.length:Int)),(11,eI (k:Int))],[(0,some (.box 32 (am m))),(1,some (.row 118 7 (((m.guards.take k).flatMap fun g=>g.cond).map cV)))],2⟩) (fun st=>m.guards.length - aw st 11) ⟨_,((aW 3 118 7 (by simp only [f9,ai.get,a7,ai.put,↓reduceIte,reduceCtorEq,Nat.reduceLT,Nat.reduceEqDiff,Nat.reduceAdd,Nat.reduceLeDiff,eq_self,implies_true,I5,JX,Jo])).trans (wS [0,1] (kf @I5 @JX))),0,IY _,rfl⟩ ?_;rintro _ ⟨k,hk,rfl⟩;by_cases hlt:k<m.guards.length
 .have et:=oX (fun g:Gd=>g.cond) m.guards hlt;have h80:=hf.guards _ (IZ hlt);obtain ⟨g,hg⟩:∃ g,g=m.guards[k]:=⟨_,rfl⟩;have hrg:(m.guards.map xL)[k]?.getD []=xL g:=by rw [hg];simp [hlt]
  rw [<- hg] at et h80;have hAk:=hA k;obtain ⟨L,hL⟩:∃ L,L=(m.guards.take k).flatMap fun g=>g.cond:=⟨_,rfl⟩;rw [<- hL] at et hAk ⊢;have et2:((m.guards.take (k+1)).flatMap fun g=>g.cond).map cV=L.map cV ++ g.cond.map cV:=by rw [et,Jl]
  repeat' first|refine gf (kf @hlt @hrg) ?_|decide|refine sp ?_ ?_<;>intro _|(with_reducible apply And.intro)
  all_goals first
   | rfl
   | omega
   | exact rI (wS [0,3] (kf et2 hL)) ⟨k+1,by omega,rfl⟩
 .obtain rfl:k=m.guards.length:=by omega
  rw [I9];have hAk:=hA m.guards.length;rw [I9] at hAk;have hcd:jX m=(m.guards.flatMap fun g=>g.cond) ++ (m.miles.flatMap fun g=>g.cond):=rfl;obtain ⟨L0,hL0⟩:∃ L,L=m.guards.flatMap fun g=>g.cond:=⟨_,rfl⟩;rw [<- hL0] at hAk hcd ⊢
  repeat' first|refine gf @hlt ?_|decide|refine sp ?_ ?_<;>intro _
  refine af (fun st=>∃ k:Nat,k<=m.miles.length /\ st=⟨33,[(1,.op 0 0 0),(3,.osl 1),(21,.sl 5 (m.miles.map ri)),(22,eI (m.miles.length:Int)),(23,eI (k:Int))],[(0,some (.box 32 (am m))),(1,some (.row 118 7 ((L0 ++ (m.miles.take k).flatMap fun g=>g.cond).map cV)))],2⟩) (fun st=>m.miles.length - aw st 23) ⟨_,(wE (kf @I5 @JX)),0,IY _,rfl⟩ ?_;rintro _ ⟨k,hk,rfl⟩;by_cases hlt2:k<m.miles.length
  .have et:=oX (fun g:Ml=>g.cond) m.miles hlt2;have h80:=hf.miles _ (IZ hlt2);obtain ⟨g,hg⟩:∃ g,g=m.miles[k]:=⟨_,rfl⟩;have hrg:(m.miles.map ri)[k]?.getD []=ri g:=by rw [hg];simp [hlt2]
   rw [<- hg] at et h80;have hBk:=hB k;have et2:(L0 ++ (m.miles.take (k+1)).flatMap fun g=>g.cond).map cV=(L0 ++ (m.miles.take k).flatMap fun g=>g.cond).map cV ++ g.cond.map cV:=by rw [et];simp
   have hll:(L0 ++ (m.miles.take k).flatMap fun g=>g.cond).length<=2400:=by rw [I0];omega
   obtain ⟨L,hL⟩:∃ L,L=L0 ++ (m.miles.take k).flatMap fun g=>g.cond:=⟨_,rfl⟩;rw [<- hL] at et2 hll ⊢
   repeat' first|refine gf (kf @hlt2 @hrg) ?_|decide|refine sp ?_ ?_<;>intro _|(with_reducible apply And.intro)
   all_goals first
    | rfl
    | omega
    | exact rI (wS [0,3] (kf et2 hL)) ⟨k+1,by omega,rfl⟩
  .obtain rfl:k=m.miles.length:=by omega
   rw [I9,<- hcd]
   repeat' first|refine gf @hlt2 ?_|decide|refine sp ?_ ?_<;>intro _
   all_goals exact kE rfl mU
end
section
theorem wb (m:aF) (hm:iJ m) (hf:iC m) (st:Int) (hst:aA st):bh Tryz.prog 55 [.agg (am m),eI st] fun R=>∃ b,R=val (.bool b) /\ (b=true -> ¬ nf m st):=by
 refine ay ae Tryz.func55 rfl (by decide) Tryz.ntmps55 Tryz.results55 rfl ?_;obtain ⟨hgl,hml,hsl,hel,-⟩:=id hf.sizes;have hpl:(pars m).length=m.stages.length:=by simp [pars]
 repeat' first|refine go ?_|decide|refine sp ?_ ?_<;>intro _
 refine af (fun s=>∃ k:Nat,k<=m.stages.length /\ s=⟨42,[(1,eI st),(2,.op 0 0 0),(5,.osl 1),(12,.sl 2 (m.stages.map rh)),(13,eI (m.stages.length:Int)),(14,eI (k:Int))],[(0,some (.box 32 (am m))),(1,some (.row 3 1 (Cp ((pars m).take k))))],2⟩) (fun s=>m.stages.length - aw s 14) ⟨_,((aW 5 3 1 (by simp only [f9,ai.get,a7,ai.put,↓reduceIte,reduceCtorEq,Nat.reduceLT,Nat.reduceEqDiff,Nat.reduceAdd,Nat.reduceLeDiff,eq_self,implies_true,I5,Jo])).trans (wS [0,1] @I5)),0,IY _,rfl⟩ ?_;rintro _ ⟨k,hk,rfl⟩;by_cases hlt:k<m.stages.length
 .have et:Cp ((pars m).take (k+1))=Cp ((pars m).take k) ++ [[eI m.stages[k].2]]:=by
   rw [Jb (by omega),Cp,Jl];simp [pars]
  have htl:=KG k (pars m);obtain ⟨x,hx⟩:∃ x,x=m.stages[k]:=⟨_,rfl⟩;have hrx:(m.stages.map rh)[k]?.getD []=rh x:=by rw [hx];simp [hlt]
  rw [<- hx] at et;obtain ⟨P,hP⟩:∃ P,P=(pars m).take k:=⟨_,rfl⟩;rw [<- hP] at et htl ⊢
  repeat' first|refine gf (kf @hlt @hrx) ?_|decide|refine sp ?_ ?_<;>intro _|(with_reducible apply And.intro)
  all_goals first
   | rfl
   | omega
   | exact rI (wS [0,4] et) ⟨k+1,by omega,rfl⟩
 .obtain rfl:k=m.stages.length:=by omega
  have ep:(pars m).take m.stages.length=pars m:=Jp (by omega);rw [ep]
  have hA:=r9 (pars m) st (by omega) (by
   intro x hx;obtain ⟨p,hp,rfl⟩:=I7.1 hx;exact hm.pars p hp)
  obtain ⟨A,hAe⟩:∃ A,A=a8 (pars m) st:=⟨_,rfl⟩;rw [<- hAe] at hA
  repeat' first|refine gf @hlt ?_|decide|refine sp ?_ ?_<;>intro _|((with_reducible first|apply ak (g:=44)|apply aD (g:=44));exact (nj m (by omega)))
  refine cQ hA (.inr bq) ?_;have hAl:A.length<=10:=by have:=oB (pars m) st;rw [<- hAe] at this;omega
  obtain ⟨B,hB⟩:∃ B,B=A ++ [st]:=⟨_,rfl⟩;have hBm:A.map (fun n=>[eI n]) ++ [[eI st]]=Cp B:=by rw [hB];simp [Cp]
  have hBl:B.length<=11:=by rw [hB,I0,Jr];omega
  repeat' first|refine gq ?_|decide|refine sp ?_ ?_<;>intro _|(with_reducible apply And.intro)
  all_goals first|rfl|omega|skip
  refine af (fun s=>∃ k:Nat,k<=B.length /\ s=⟨42,[(8,eI (fX m m.guards.length)),(31,.osl 0),(32,eI (B.length:Int)),(33,eI (k:Int))],[(0,some (.row 3 1 (Cp B)))],1⟩) (fun s=>B.length - aw s 33) ⟨_,(wS [4] @hBm),0,IY _,rfl⟩ ?_;rintro _ ⟨k,hk,rfl⟩;by_cases hlb:k<B.length
  .obtain ⟨u,hu⟩:∃ u,u=B[k]:=⟨_,rfl⟩;have hru:(Cp B)[k]?.getD []=[eI u]:=by rw [hu];simp [hlb]
   have hH:=ju (fX m m.guards.length) u
   cases hh:aR (fX m m.guards.length) u with
   | true=>
    rw [hh] at hH
    repeat' first|refine gf (kf @hlb @hru) ?_|decide|refine sp ?_ ?_<;>intro _|refine cA hH ?_|fail
    all_goals exact rI wC ⟨k+1,by omega,rfl⟩
   | false=>
    rw [hh] at hH
    have hno:¬ nf m st:=fun hfn=>by
     have hmem:u ∈ a8 (pars m) st ++ [st]:=by rw [<- hAe,<- hB,hu];exact IZ _
     have hat:bw (pars m) u:=by
      rcases Ja.1 hmem with h|h
      .exact n6 h
      .rw [Jg.1 h];exact hfn.1
     have:=(wl m (i:=u) ⟨hat.1,by have:=hat.2;omega⟩).2 (hfn.2 u hmem);rw [hh] at this;cases this
    repeat' first|refine gf (kf @hlb @hru) ?_|decide|refine sp ?_ ?_<;>intro _|refine cA hH ?_|fail
    all_goals exact co ⟨true,rfl,fun _=>hno⟩
  .obtain rfl:k=B.length:=by omega
   repeat' first|refine gf @hlb ?_|decide|refine sp ?_ ?_<;>intro _
   all_goals exact co ⟨false,rfl,fun h=>by cases h⟩
end
section
def fP (l:List Int):List UInt8:=Lib.join (l.map Lib.itoa) [32]
theorem fM (n:Int) (l:List Int):fP (n :: l)=Lib.itoa n ++ Lib.joinTail [32] (l.map Lib.itoa):=by
 unfold fP;rw [JN,Lib.join_cons]
def ll (s:St):List Int:=(s.vals.length:Int) :: (s.vals ++ (s.opn :: s.don :: (s.did.length:Int) :: (s.did ++ ((s.cnt.length:Int) :: s.cnt))))
def gO (s:St):List UInt8:=fP (ll s)
end
section
open Go.RowKit Go.Sort
theorem x0 (A:Option Addr) (c:Nat) (w:World) :
  Calls Tryz.prog 159 #[.slice A 0 c,.int .i64 0,.int .i64 0] w fun e w'=>e=.returned (.tuple #[]) /\ Below w.heap.size w w':=by
 go_enter Tryz.func159,Tryz.ntmps159
 go_wp2_with fail
 go_loopw [6] (fun i wr=>i=.int .i64 1 /\ Below w.heap.size w wr) (fun i wr=>0)
 case atStart=>exact ⟨rfl,Below.refl _ _⟩
 case round=>
  obtain ⟨rfl,hbl⟩:=hrel
  go_wp2_with fail
  go_end0
  exact ⟨rfl,hbl⟩
theorem xJ (A:Option Addr) (c:Nat) (L:Int) (w:World) :
  Calls Tryz.prog 138 #[.slice A 0 c,.int .i64 0,.int .i64 0,.int .i64 L] w fun e w'=>e=.returned (.tuple #[]) /\ Below w.heap.size w w':=by
 go_enter Tryz.func138,Tryz.ntmps138
 go_wp2_with fail
 go_loopw [1,2] (fun a b wr=>a=.int .i64 0 /\ b=.int .i64 0 /\ Below w.heap.size w wr) (fun a b wr=>0)
 case atStart=>exact ⟨rfl,rfl,Below.refl _ _⟩
 case round=>
  obtain ⟨rfl,rfl,hbl⟩:=hrel;have h:=x0 A c wr
  go_wp2_with fail
  refine h.mono ?_;rintro e w2 ⟨rfl,hb2⟩
  go_wp2_with fail
  refine bodyPost_ret (results_none rfl _ _ _) rfl ?_;exact ⟨rfl,hbl.trans (hb2.mono hbl.size)⟩
theorem uF (A:Option Addr) (c:Nat) (w:World) :
  Calls Tryz.prog 118 #[.slice A 0 c] w fun e w'=>e=.returned (.tuple #[]) /\ Below w.heap.size w w':=by
 have h1:=Tryz.bits_Len 0 w (by decide) (by decide);generalize Lib.bitLen (0:Int).toNat=L at *;have h2:=xJ A c L w
 go_enter Tryz.func118,Tryz.ntmps118
 go_wp2_with fail
 refine h1.mono ?_;rintro e w2 ⟨rfl,rfl⟩
 go_wp2_with fail
 refine h2.mono ?_;rintro e w3 ⟨rfl,hb⟩
 go_wp2_with fail
 go_end0
 exact ⟨rfl,hb⟩
abbrev tI (l:List Int):List (List AV):=l.map fun n=>[eI n]
theorem DZ {w:World} {S:Nat -> Prop} {base:Nat} {v:Value} {l:List Int} (h:od w S base 3 1 v (tI l)):ce w base 3 1 v l.length (l.map (Value.int .i64)):=by
 obtain ⟨_,xs,hown,hone,hx⟩:=h
 have e:xs=l.map (Value.int .i64):=by
  have hlen:xs.length=l.length:=by simpa using hown.1
  apply List.ext_getElem (by simpa using hlen);intro i h1 h2;have hi:i<l.length:=by omega
  obtain ⟨x,hx1,hx2⟩:=hx i 0 [eI l[i]] (eI l[i]) (by simp [hi]) rfl;rw [Nat.mul_one,Nat.add_zero,IU h1] at hx1;cases hx1;rw [xz hx2];simp
 rw [e,Jd] at hown;exact hown
theorem vL {w:World} {S:Nat -> Prop} {base:Nat} {v:Value} {l:List Int} (h:ce w base 3 1 v l.length (l.map (Value.int .i64))):od w S base 3 1 v (tI l):=by
 refine ⟨fun row hr=>?_,l.map (Value.int .i64),by rw [Jd];exact h,fun x hx=>?_,fun i j row av h1 h2=>?_⟩
 .obtain ⟨n,_,rfl⟩:=I7.1 hr;rfl
 .obtain ⟨n,_,rfl⟩:=I7.1 hx;rfl
 .rw [IW] at h1
  cases hi:l[i]? with
  | none=>simp [hi] at h1
  | some n=>
   simp [hi] at h1;subst h1
   cases j with
   | zero=>
    simp at h2;subst h2;exact ⟨.int .i64 n,by simp [hi],.c _⟩
   | succ j=>simp at h2
theorem Bd {w:World} {base:Nat} {v:Value} {n:Nat} {xs:List Value} (h:ce w base 3 1 v n xs) (hn:0<n):∃ g cap cur,v=.slice (some ⟨g,0,none⟩) n cap /\ base<=g /\ w.heap[g]? = some (.cells cur 3 (0,0)) /\ n<=cap /\ cap<=maxLen /\ cap * 1<=cur.size /\ cur.toList.take (n * 1)=xs:=by
 rcases h.2 with ⟨_,h0⟩|h
 .omega
 .exact h
theorem j5 (S:List Int):(Lib.compact S).length<=S.length:=by
 unfold Lib.compact Lib.compactUpTo;rw [Jd];have:=Kw (Lib.keeps S.toArray) (List.range S.length);simpa using this
theorem sd {w:World} {base g cap n:Nat} {e:TypeId} {os:Array Obj} {cur:Array Value} {ss ts:List Int} (hl:ts.length=ss.length) (hbase:base<=g) (hb:w.heap[g]? = some (.cells cur e (0,0)))
  (h1:ss.length<=cap) (h2:cap<=maxLen) (h3:cap * 1<=cur.size) :
  ce (Go.Sort.grow (putRow (Value.int .i64) (Sort.ahead w n) g 0 ts.toArray) os) base e 1 (.slice (some ⟨g,0,none⟩) ss.length cap) ss.length (ts.map (Value.int .i64)):=
 ⟨by simp [hl],.inr ⟨g,cap,putCells (Value.int .i64) 0 ts.toArray cur,rfl,hbase,heap_sortedI _ hb,h1,h2,by simp [putCells];omega,by rw [Nat.mul_one,<- hl];exact take_putCellsI cur ts (by omega)⟩⟩
theorem Gp (l:List Int) (hl:l.length<=1000000):GF Tryz.prog 118 3 1 (tI l) [] (tI (l.mergeSort fun x y=>decide (x<=y))):=by
 refine ⟨bC Tryz.func118 rfl (by decide),fun S w base v vs hS hbD hrow hvS hvn hvs=>?_⟩;obtain rfl:vs = #[]:=Array.eq_empty_of_size_eq_zero (by simpa using hvn);have hown:=DZ hrow;have hSl:(l.mergeSort fun x y=>decide (x<=y)).length=l.length:=Ky ..;by_cases h0:l.length=0
 .have hl0:l=[]:=JA h0;subst hl0
  have hv:∃ A c,v=.slice A 0 c:=by
   rcases hown.2 with ⟨rfl,_⟩|⟨g,cap,cur,rfl,_⟩
   .exact ⟨_,_,rfl⟩
   .exact ⟨_,_,rfl⟩
  obtain ⟨A,c,rfl⟩:=hv;have e0:(([]:List Int).mergeSort fun x y=>decide (x<=y))=[]:=JA (by rw [Ky];rfl);rw [e0];refine (uF A c w).mono ?_;rintro e w' ⟨rfl,hb⟩;refine ⟨rfl,⟨hb.os,hb.tape,hb.output⟩,hb.size,fun k hk _=>hb.block k hk,vL ⟨by simp,?_⟩⟩;rcases hown.2 with h|⟨g,cap,cur,h1,h2,h3,h4⟩
  .exact .inl h
  .exact .inr ⟨g,cap,cur,h1,h2,(hb.block g (Jj.1 h3).1).trans h3,h4⟩
 obtain ⟨g,cap,cur,rfl,hbase,hblk,hn,hcap,hcs,htake⟩:=Bd hown (by omega);rw [Nat.mul_one] at htake;have hg:g<w.heap.size:=(Jj.1 hblk).1;have hH:=holds_of_blockI hblk htake;have h2:=Tryz.slices_Sort_intI g 0 cap l w hH hg (by omega);refine h2.mono ?_;rintro e w2 ⟨rfl,n,os,rfl⟩;have hown2:=sd (n:=n) (os:=os) (ts:=l.mergeSort fun x y=>decide (x<=y)) hSl hbase hblk hn hcap hcs;have hgr2:=grownBy_sortedI (w:=w) (g:=g) (n:=n) (os:=os) (l.mergeSort fun x y=>decide (x<=y)).toArray;generalize Go.Sort.grow (putRow (Value.int .i64) (Sort.ahead w n) g 0 (l.mergeSort fun x y=>decide (x<=y)).toArray) os=w2 at *;refine ⟨rfl,⟨hgr2.os,hgr2.tape,hgr2.output⟩,hgr2.size,fun k hk hne=>hgr2.block k hk fun e=>hne (by rw [e];rfl),vL ?_⟩;rw [hSl];exact hown2
theorem wH (l:List Int) (hl:l.length<=1000000):Di Tryz.prog 119 3 1 (l.map fun n=>[Value.int .i64 n]) [] ((Lib.compact l).map fun n=>[Value.int .i64 n]):=by
 have hfl:∀ l:List Int,(l.map fun n=>[Value.int .i64 n]).flatten=l.map (Value.int .i64):=fun l=>by
  induction l with
  | nil=>rfl
  | cons a l ih=>simp [ih]
 refine ⟨bC Tryz.func119 rfl (by decide),fun w v base hown=>?_⟩;rw [hfl,Jd] at hown;by_cases h0:l.length=0
 .have hl0:l=[]:=JA h0;subst hl0
  have hv:∃ A c,v=.slice A 0 c:=by
   rcases hown.2 with ⟨rfl,_⟩|⟨g,cap,cur,rfl,_⟩
   .exact ⟨_,_,rfl⟩
   .exact ⟨_,_,rfl⟩
  obtain ⟨A,c,rfl⟩:=hv;refine (Tryz.slices_Compact_int_emptyI A c w).mono ?_;rintro e w' ⟨rfl,rfl⟩;exact ⟨_,rfl,hown,⟨rfl,rfl,rfl,I6 _,fun _ _ _=>rfl⟩,rfl⟩
 obtain ⟨g,cap,cur,rfl,hbase,hblk,hn,hcap,hcs,htake⟩:=Bd hown (by omega);rw [Nat.mul_one] at htake;have hg:g<w.heap.size:=(Jj.1 hblk).1;have hH:=holds_of_blockI hblk htake;have h3:=Tryz.slices_Compact_intI g 0 cap l w hH (by omega) (by omega);have hcl:=j5 l;refine h3.mono ?_;rintro e w3 ⟨rfl,q,hw3⟩;have hown3:=sd (n:=q) (os:=#[]) (ss:=l) (ts:=Lib.compact l ++ List.replicate (l.length - (Lib.compact l).length) 0) (by simp;omega) hbase hblk hn hcap hcs;have hgr3:=grownBy_sortedI (w:=w) (g:=g) (n:=q) (os:=#[]) (Lib.compact l ++ List.replicate (l.length - (Lib.compact l).length) 0).toArray;rw [grow_empty] at hown3 hgr3;rw [<- hw3] at hown3 hgr3;refine ⟨_,rfl,?_,hgr3,rfl⟩;rw [hfl,Jd];obtain ⟨_,⟨hx,_⟩|⟨g',cap',cur',hv,h4,h5,h6,h7,h8,h9⟩⟩:=hown3
 .cases hx
 cases hv;refine ⟨by simp,.inr ⟨g,cap,cur',rfl,hbase,h5,by omega,hcap,by omega,?_⟩⟩;have:cur'.toList.take ((Lib.compact l).length * 1)=(cur'.toList.take (l.length * 1)).take ((Lib.compact l).length * 1):=by rw [List.take_take,Nat.min_eq_left (by omega)]
 rw [this,h9];simp
end
section
theorem o9 (l:List Int) (hl:l.length<=1000000):bh Tryz.prog 92 [sI l] fun R=>∃ n,R=val (.int .i64 n):=by
 refine ay ae Tryz.func92 rfl (by decide) Tryz.ntmps92 Tryz.results92 rfl ?_
 repeat' first|refine go ?_|decide|refine sp ?_ ?_<;>intro _
 refine af (fun st=>∃ (k:Nat) (s:Int),k<=l.length /\ st=⟨17,[(3,eI s),(6,sI l),(7,eI (l.length:Int)),(8,eI (k:Int))],[],0⟩) (fun st=>l.length - aw st 8) ⟨_,wC,0,0,IY _,rfl⟩ ?_;rintro _ ⟨k,s,hk,rfl⟩;by_cases hlt:k<l.length
 .obtain ⟨x,hx⟩:∃ x,x=l[k]:=⟨_,rfl⟩;have hrx:(l.map fun n=>[eI n])[k]?.getD []=[eI x]:=by rw [hx];simp [hlt]
  repeat' first|refine gf (kf @hlt @hrx) ?_|decide|refine sp ?_ ?_<;>intro _|((with_reducible first|apply ak (g:=43)|apply aD (g:=43));exact (jL s x))
  all_goals exact rI wC ⟨k+1,ba s x,by omega,rfl⟩
 .obtain rfl:k=l.length:=by omega
  repeat' first|refine gf @hlt ?_|decide|refine sp ?_ ?_<;>intro _
  all_goals exact co ⟨s,rfl⟩
theorem AR {P:Program} {st:ai} {g:FuncId} {K:AV -> ai -> Prop} {id e sz:Nat} {vals vals':List (List Value)} {rows rows':List (List AV)} (h:Di P g e sz vals [] vals') (hr:dI vals=rows) (hr':dI vals'=rows') (hid:st.tab.get id=some (.row e sz rows)) (hv:∀ r ∈ vals',r.length=sz /\ ∀ x ∈ r,x.oneCell'=true)
  (hk:K (.osl st.next) { st with tab:=bv st.tab st.next (some id) (.row e sz rows'),next:=st.next+1 }):dr none P st g [.osl id] K:=by
 subst hr hr';exact .inr (.inl ⟨rfl,.inl (.inl ⟨id,e,sz,vals,[],vals',rfl,hid,h,hv,hk⟩)⟩)
theorem lN (l:List Int):dI (l.map fun n=>[Value.int .i64 n])=tI l:=by simp [dI,Function.comp_def]
def eU (l:List (Int × Int)):List Int:=(l.filter fun p=>p.1 != -1).map (·.1)
theorem zt (l:List az) (hl:l.length<=4000):bh Tryz.prog 93 [aV l] fun R=>∃ w:List Int,R=cu 3 1 (tI w) /\ w.length<=8000:=by
 refine ay ae Tryz.func93 rfl (by decide) Tryz.ntmps93 Tryz.results93 rfl ?_;have hvl:=jW l
 repeat' first|refine go ?_|decide|refine sp ?_ ?_<;>intro _
 refine dJ (wA l hl) (ro) ?_;obtain ⟨V,hV⟩:∃ V,V=cT l:=⟨_,rfl⟩;rw [<- hV] at hvl ⊢;have hsh:(AV.sl 2 (V.map rj)).shift 0=.sl 2 (V.map rj):=rfl
 repeat' first|refine ge @hsh ?_|decide|refine sp ?_ ?_<;>intro _
 refine af (fun st=>∃ k:Nat,k<=V.length /\ st=⟨26,[(3,.osl 0),(7,.sl 2 (V.map rj)),(8,eI (V.length:Int)),(9,eI (k:Int))],[(0,some (.row 3 1 (tI (eU (V.take k)))))],1⟩) (fun st=>V.length - aw st 9) ⟨_,((aW 3 3 1 (by simp only [f9,ai.get,a7,ai.put,↓reduceIte,reduceCtorEq,Nat.reduceLT,Nat.reduceEqDiff,Nat.reduceAdd,Nat.reduceLeDiff,eq_self,implies_true,I5,eU,List.filter_nil,Jo])).trans (wS [0] (kf @I5 (kf @eU.eq_1 @List.filter_nil.{0})))),0,IY _,rfl⟩ ?_;rintro _ ⟨k,hk,rfl⟩
 have hal:∀ l,(eU l).length<=l.length:=fun l=>by
  unfold eU;rw [Jd];exact Kw _ _
 by_cases hlt:k<V.length
 .obtain ⟨x,hx⟩:∃ x,x=V[k]:=⟨_,rfl⟩;have hrx:(V.map rj)[k]?.getD []=rj x:=by rw [hx];simp [hlt]
  have htk:V.take (k+1)=V.take k ++ [x]:=by rw [Jb hlt,hx]
  have hfl:=hal (V.take k);have htl:=KG k V;obtain ⟨P,hP⟩:∃ P,P=V.take k:=⟨_,rfl⟩;rw [<- hP] at htk hfl htl ⊢
  cases hc:(x.1 != -1) with
  | true=>
   have et:tI (eU (V.take (k+1)))=tI (eU P) ++ [[eI x.1]]:=by
    rw [htk];simp [eU,hc,-bne_iff_ne]
   repeat' first|refine gf (kf @hlt (kf @hrx hc)) ?_|decide|refine sp ?_ ?_<;>intro _|(with_reducible apply And.intro)
   all_goals first
    | rfl
    | omega
    | exact rI (wS [3] et) ⟨k+1,by omega,rfl⟩
  | false=>
   have et:eU (V.take (k+1))=eU P:=by
    rw [htk];simp [eU,hc,-bne_eq_false_iff_eq]
   repeat' first|refine gf (kf @hlt (kf @hrx hc)) ?_|decide|refine sp ?_ ?_<;>intro _
   all_goals exact rI (wS [0] et) ⟨k+1,by omega,rfl⟩
 .obtain rfl:k=V.length:=by omega
  have hbl:=hal (V.take V.length);rw [I9] at hbl;obtain ⟨b,hb⟩:∃ b,b=eU (V.take V.length):=⟨_,rfl⟩;rw [<- hb];rw [I9] at hb;rw [<- hb] at hbl
  repeat' first|refine ge @hlt ?_|decide|refine sp ?_ ?_<;>intro _
  refine HS (Gp b (by omega)) rfl trivial ?_
  repeat' first|refine go ?_|decide|refine sp ?_ ?_<;>intro _
  refine AR (wH _ (by rw [Ky];omega)) (lN _) (lN _) rfl (fun r hr=>by
   obtain ⟨n,_,rfl⟩:=I7.1 hr;exact ⟨rfl,fun x hx=>by simp at hx;subst hx;rfl⟩) ?_
  repeat' first|refine go ?_|decide|refine sp ?_ ?_<;>intro _
  refine kE rfl ⟨_,rfl,?_⟩;have h1:=j5 (b.mergeSort fun x y=>decide (x<=y));rw [Ky] at h1;omega
end
section
theorem zG (m:aF) (hf:iC m) (hs:∀ e ∈ m.events,e.sets.length<=1000000):bh Tryz.prog 42 [.agg (am m)] fun R=>∃ a b:Int,R=⟨.tup [eI a,eI b],[],0⟩:=by
 refine ay ae Tryz.func42 rfl (by decide) Tryz.ntmps42 Tryz.results42 rfl ?_;obtain ⟨hgl,hml,hsl,hel,-⟩:=id hf.sizes
 have hcl:(jX m).length<=4000:=by
  unfold jX;have h1:=fK (fun g:Gd=>g.cond) 80 m.guards hf.guards;have h2:=fK (fun g:Ml=>g.cond) 80 m.miles hf.miles;rw [I0];omega
 repeat' first|refine go ?_|decide|refine sp ?_ ?_<;>intro _
 refine dJ (B6 m hf) (ro) ?_;have hsh:(aV (jX m)).shift 0=aV (jX m):=rfl
 repeat' first|refine ge @hsh ?_|decide|refine sp ?_ ?_<;>intro _
 refine dV (zt (jX m) hcl) fun R hR=>?_;obtain ⟨w,rfl,hw⟩:=hR;refine ⟨ro,?_⟩;have hsw:(cu 3 1 (tI w)).r.shift 1=.osl 1:=rfl;have htw:ag.shift 1 (cu 3 1 (tI w)).tab=[(1,some (.row 3 1 (tI w)))]:=by simp [cu,eJ,dD,aE.shift]
 repeat' first|refine ge (kf @hsw @htw) ?_|decide|refine sp ?_ ?_<;>intro _
 refine dV (o9 w (by omega)) fun R hR=>?_;obtain ⟨n,rfl⟩:=hR;refine ⟨.inr ⟨trivial,trivial⟩,?_⟩;have hn1:(cu 3 1 (tI w)).n=1:=rfl;have hv1:∀ k,(val (.int .i64 n)).r.shift k=eI n:=fun _=>rfl;have hv2:∀ k,ag.shift k (val (.int .i64 n)).tab=[]:=fun _=>rfl;have hv3:(val (.int .i64 n)).n=0:=rfl
 repeat' first|refine ge (kf @hsw (kf hn1 (kf hv1 (kf hv2 hv3)))) ?_|decide|refine sp ?_ ?_<;>intro _
 refine af (fun st=>∃ (k:Nat) (s:Int),k<=m.events.length /\ st=⟨25,[(1,.op 0 0 0),(2,eI n),(3,eI s),(11,.sl 5 (m.events.map mt)),(12,eI (m.events.length:Int)),(13,eI (k:Int))],[(0,some (.box 32 (am m)))],1⟩) (fun st=>m.events.length - aw st 13) ⟨_,(wR [0]),0,0,IY _,rfl⟩ ?_;rintro _ ⟨k,s,hk,rfl⟩;by_cases hlt:k<m.events.length
 .have hsl:=hs _ (IZ hlt);obtain ⟨x,hx⟩:∃ x,x=m.events[k]:=⟨_,rfl⟩;have hrx:(m.events.map mt)[k]?.getD []=mt x:=by rw [hx];simp [hlt]
  rw [<- hx] at hsl
  repeat' first|refine ge (kf @hlt @hrx) ?_|decide|refine sp ?_ ?_<;>intro _
  refine dV (o9 x.sets hsl) fun R hR=>?_;obtain ⟨q,rfl⟩:=hR;refine ⟨.inr ⟨trivial,trivial⟩,?_⟩;have hv1:∀ k,(val (.int .i64 q)).r.shift k=eI q:=fun _=>rfl;have hv2:∀ k,ag.shift k (val (.int .i64 q)).tab=[]:=fun _=>rfl;have hv3:(val (.int .i64 q)).n=0:=rfl
  repeat' first|refine ge (kf hv1 (kf hv2 hv3)) ?_|decide|refine sp ?_ ?_<;>intro _
  exact rI (wR [0]) ⟨k+1,bits BinOp.or IntKind.i64 s q,by omega,rfl⟩
 .obtain rfl:k=m.events.length:=by omega
  repeat' first|refine gf @hlt ?_|decide|refine sp ?_ ?_<;>intro _
  exact Dy ⟨_,_,rfl⟩ (by simp [AV.lt,AV.ltL]) rfl
end
end
section
section
abbrev rA (m:aF) (a b u r g f:Int):List (List AV):=[[eI m.attrs.length,.fn 47 [.rp [eI a]]],[eI m.attrs.length,.fn 49 [.rp [eI a],.rp [eI b]]],[eI m.users.length,.fn 50 [.rp [eI u]]],[eI m.roles.length,.fn 51 [.rp [eI r]]],[eI m.stages.length,.fn 52 [.rp [eI g]]],[eI m.stages.length,.fn 53 [.rp [eI f]]],[eI m.events.length,.fn 54 [.rp (am m)]],[eI m.miles.length,.fn 56 [.rp (am m)]],[eI m.guards.length,.fn 57 [.rp (am m)]],[eI m.miles.length,.fn 59 [.rp (am m)]],[eI m.sods.length,.fn 60 [.rp [.fn 46 [.rp (am m)]],.rp (am m)]]]
theorem y8 (m:aF) (hf:iC m) (hs:∀ e ∈ m.events,e.sets.length<=1000000):bh Tryz.prog 18 [.agg (am m)] fun R=>∃ a b u r,R=cu 71 2 (rA m a b u r (fX m m.guards.length) (uB m)):=by
 obtain ⟨hgl,hml,hsl,hel,hal,hul,hrl,hsol,hol,hil⟩:=id hf.sizes;refine gQ Tryz.func18 rfl (by decide) Tryz.ntmps18 Tryz.results18 rfl ?_;have hG:=nj m (by omega);obtain ⟨g,hg⟩:∃ g,g=fX m m.guards.length:=⟨_,rfl⟩;rw [<- hg] at hG ⊢;have hFi:=x4 m (by omega) (by omega) (by omega);obtain ⟨f,hf2⟩:∃ f,f=uB m:=⟨_,rfl⟩;rw [<- hf2] at hFi ⊢;refine b5 (fun st=>st=⟨104,[(1,.op 0 0 0)],[(0,some (.box 32 (am m)))],1⟩) (cy ae ?_) ?_
 .repeat' first|refine gq ?_|decide|refine sp ?_ ?_<;>intro _
  all_goals exact bG wC rfl
 rintro _ rfl;refine b5 (fun st=>∃ a b:Int,st=⟨104,[(1,.op 0 0 0),(3,.op 1 0 0),(4,.op 2 0 0)],[(0,some (.box 32 (am m))),(1,some (.box 3 [eI a])),(2,some (.box 3 [eI b]))],3⟩) (cy ae ?_) ?_
 .repeat' first|refine go ?_|decide|refine sp ?_ ?_<;>intro _
  refine dV (zG m hf hs) fun R hR=>?_;obtain ⟨a,b,rfl⟩:=hR;refine ⟨ro,?_⟩;have hv1:∀ k,(⟨.tup [eI a,eI b],[],0⟩:bS).r.shift k=.tup [eI a,eI b]:=fun _=>rfl;have hv2:∀ k,ag.shift k (⟨.tup [eI a,eI b],[],0⟩:bS).tab=[]:=fun _=>rfl;have hv3:(⟨.tup [eI a,eI b],[],0⟩:bS).n=0:=rfl
  repeat' first|refine ge (kf hv1 (kf hv2 hv3)) ?_|decide|refine sp ?_ ?_<;>intro _
  all_goals exact bG wC ⟨a,b,rfl⟩
 rintro _ ⟨a,b,rfl⟩;refine b5 (fun st=>st=⟨104,[(1,.op 0 0 0),(3,.op 1 0 0),(4,.op 2 0 0),(5,.op 3 0 0),(6,.op 4 0 0)],[(0,some (.box 32 (am m))),(1,some (.box 3 [eI a])),(2,some (.box 3 [eI b])),(3,some (.box 3 [eI 0])),(4,some (.box 3 [eI 0]))],5⟩) (cy ae ?_) ?_
 .repeat' first|refine gq ?_|decide|refine sp ?_ ?_<;>intro _
  all_goals exact bG wC rfl
 rintro _ rfl;refine b5 (fun st=>∃ u:Int,st=⟨104,[(1,.op 0 0 0),(3,.op 1 0 0),(4,.op 2 0 0),(5,.op 3 0 0),(6,.op 4 0 0)],[(0,some (.box 32 (am m))),(1,some (.box 3 [eI a])),(2,some (.box 3 [eI b])),(3,some (.box 3 [eI u])),(4,some (.box 3 [eI 0]))],5⟩) (cy ae ?_) ?_
 .repeat' first|refine go ?_|decide|refine sp ?_ ?_<;>intro _
  refine af (fun st=>∃ (k:Nat) (u:Int),k<=m.roles.length /\ st=⟨104,[(1,.op 0 0 0),(3,.op 1 0 0),(4,.op 2 0 0),(5,.op 3 0 0),(6,.op 4 0 0),(20,.sl 2 (m.roles.map rh)),(21,eI (m.roles.length:Int)),(22,eI (k:Int))],[(0,some (.box 32 (am m))),(1,some (.box 3 [eI a])),(2,some (.box 3 [eI b])),(3,some (.box 3 [eI u])),(4,some (.box 3 [eI 0]))],5⟩) (fun st=>m.roles.length - aw st 22) ⟨_,wC,0,0,IY _,rfl⟩ ?_;rintro _ ⟨k,u,hk,rfl⟩;by_cases hlt:k<m.roles.length
  .obtain ⟨x,hx⟩:∃ x,x=m.roles[k]:=⟨_,rfl⟩;have hrx:(m.roles.map rh)[k]?.getD []=rh x:=by rw [hx];simp [hlt]
   repeat' first|refine gf (kf @hlt @hrx) ?_|decide|refine sp ?_ ?_<;>intro _
   all_goals exact rI (wR [0,1,2,3,4]) ⟨k+1,bits BinOp.or IntKind.i64 u x.2,by omega,rfl⟩
  .obtain rfl:k=m.roles.length:=by omega
   repeat' first|refine gf @hlt ?_|decide|refine sp ?_ ?_<;>intro _
   all_goals exact bG wC ⟨u,rfl⟩
 rintro _ ⟨u,rfl⟩;refine b5 (fun st=>∃ r:Int,st=⟨104,[(1,.op 0 0 0),(3,.op 1 0 0),(4,.op 2 0 0),(5,.op 3 0 0),(6,.op 4 0 0)],[(0,some (.box 32 (am m))),(1,some (.box 3 [eI a])),(2,some (.box 3 [eI b])),(3,some (.box 3 [eI u])),(4,some (.box 3 [eI r]))],5⟩) (cy ae ?_) ?_
 .repeat' first|refine go ?_|decide|refine sp ?_ ?_<;>intro _
  refine af (fun st=>∃ (k:Nat) (r:Int),k<=m.events.length /\ st=⟨104,[(1,.op 0 0 0),(3,.op 1 0 0),(4,.op 2 0 0),(5,.op 3 0 0),(6,.op 4 0 0),(32,.sl 5 (m.events.map mt)),(33,eI (m.events.length:Int)),(34,eI (k:Int))],[(0,some (.box 32 (am m))),(1,some (.box 3 [eI a])),(2,some (.box 3 [eI b])),(3,some (.box 3 [eI u])),(4,some (.box 3 [eI r]))],5⟩) (fun st=>m.events.length - aw st 34) ⟨_,wC,0,0,IY _,rfl⟩ ?_;rintro _ ⟨k,r,hk,rfl⟩;by_cases hlt:k<m.events.length
  .obtain ⟨x,hx⟩:∃ x,x=m.events[k]:=⟨_,rfl⟩;have hrx:(m.events.map mt)[k]?.getD []=mt x:=by rw [hx];simp [hlt]
   repeat' first|refine gf (kf @hlt @hrx) ?_|decide|refine sp ?_ ?_<;>intro _|((with_reducible first|apply ak (g:=43)|apply aD (g:=43));exact (jL r x.role))
   all_goals exact rI (wR [0,1,2,3,4]) ⟨k+1,ba r x.role,by omega,rfl⟩
  .obtain rfl:k=m.events.length:=by omega
   repeat' first|refine gf @hlt ?_|decide|refine sp ?_ ?_<;>intro _
   all_goals exact bG wC ⟨r,rfl⟩
 rintro _ ⟨r,rfl⟩;refine b5 (fun st=>st=⟨104,[(1,.op 0 0 0),(3,.op 1 0 0),(4,.op 2 0 0),(5,.op 3 0 0),(6,.op 4 0 0),(11,.op 5 0 0),(12,.op 6 0 0)],[(0,some (.box 32 (am m))),(1,some (.box 3 [eI a])),(2,some (.box 3 [eI b])),(3,some (.box 3 [eI u])),(4,some (.box 3 [eI r])),(5,some (.box 3 [eI g])),(6,some (.box 3 [eI f]))],7⟩) (cy ae ?_) ?_
 .repeat' first|refine go ?_|decide|refine sp ?_ ?_<;>intro _
  refine bk [] [0,2] (.three 1 (.three 3 (.two 4 (.exec 5 (.exec 6 (.exec 7 .done))) 5 (.exec 4 (.exec 6 (.exec 7 .done)))) 4 (.two 3 (.exec 5 (.exec 6 (.exec 7 .done))) 5 (.exec 3 (.exec 6 (.exec 7 .done)))) 5 (.two 3 (.exec 4 (.exec 6 (.exec 7 .done))) 4 (.exec 3 (.exec 6 (.exec 7 .done))))) 4 (.two 1 (.two 3 (.exec 5 (.exec 6 (.exec 7 .done))) 5 (.exec 3 (.exec 6 (.exec 7 .done)))) 5 (.exec 1 (.exec 3 (.exec 6 (.exec 7 .done))))) 5 (.two 1 (.two 3 (.exec 4 (.exec 6 (.exec 7 .done))) 4 (.exec 3 (.exec 6 (.exec 7 .done)))) 4 (.exec 1 (.exec 3 (.exec 6 (.exec 7 .done)))))) (by kernel_rfl) (by simp [ag.gc]) ?_
  repeat' first|refine gq ?_|decide|refine sp ?_ ?_<;>intro _|refine cA hG ?_|refine cA hFi ?_|(with_reducible apply And.intro)
  all_goals first
   | exact bG (wR [0,1,2,3,4,5,6]) rfl
   | exact bG (wR [0,1,2,3,4,6,5]) rfl
 rintro _ rfl;refine SC.weak (((((((cN 0 (ty:=32) (cells:=am m) (by simp [ag.gc]) (by simp [aI,aQ]) (by simp [bK,cp,aI,aQ])).trans (cN 1 (ty:=3) (cells:=[eI a]) (by simp [ag.gc]) (by simp [aI,aQ]) (by simp [bK,cp,aI,aQ]))).trans (cN 2 (ty:=3) (cells:=[eI b]) (by simp [ag.gc]) (by simp [aI,aQ]) (by simp [bK,cp,aI,aQ]))).trans (cN 3 (ty:=3) (cells:=[eI u]) (by simp [ag.gc]) (by simp [aI,aQ]) (by simp [bK,cp,aI,aQ]))).trans (cN 4 (ty:=3) (cells:=[eI r]) (by simp [ag.gc]) (by simp [aI,aQ]) (by simp [bK,cp,aI,aQ]))).trans (cN 5 (ty:=3) (cells:=[eI g]) (by simp [ag.gc]) (by simp [aI,aQ]) (by simp [bK,cp,aI,aQ]))).trans (cN 6 (ty:=3) (cells:=[eI f]) (by simp [ag.gc]) (by simp [aI,aQ]) (by simp [bK,cp,aI,aQ]))) ?_;simp only [fY,AV.rpz,AV.rpzL,↓reduceIte,List.drop_zero,Nat.reduceEqDiff,KI,KQ];refine SC.weak (wC:dw _ ⟨104,[(1,.rp (am m)),(3,.rp [eI a]),(4,.rp [eI b]),(5,.rp [eI u]),(6,.rp [eI r]),(11,.rp [eI g]),(12,.rp [eI f])],[],0⟩) ?_;refine b5 (fun st=>st=⟨104,[(1,.rp (am m)),(3,.rp [eI a]),(4,.rp [eI b]),(5,.rp [eI u]),(6,.rp [eI r]),(11,.rp [eI g]),(12,.rp [eI f]),(13,.op 0 0 0)],[(0,some (.box 87 [.fn 46 [.rp (am m)]]))],1⟩) (cy ae ?_) ?_
 .repeat' first|refine gq ?_|decide|refine sp ?_ ?_<;>intro _
  all_goals exact bG (wR [0]) rfl
 rintro _ rfl;refine SC.weak (nW 0 (ty:=87) (cells:=[.fn 46 [.rp (am m)]]) (by simp [ag.gc]) (by simp [eY,me,aI,aQ]) (by simp [bK])) ?_;simp only [fY,AV.rpz,AV.rpzL,↓reduceIte,List.drop_zero,Nat.reduceEqDiff,KI,KQ];refine cy ae ?_
 repeat' first|refine gq ?_|decide|refine sp ?_ ?_<;>intro _|(with_reducible apply And.intro)
 all_goals first
  | rfl
  | exact kE (rows:=rA m a b u r g f) (e:=71) (sz:=2) (by simp [ag.gc,rA]) ⟨a,b,u,r,rfl⟩
structure wi (m:aF) (c:Nat) (i:Nat):Prop where
 five:c=5 -> i<m.stages.length /\ aR (fX m m.guards.length) (i:Int)=false
 seven:c=7 -> ∃ h:i<m.events.length,¬ nf m m.events[i].stage
 eight:c=8 -> ∃ h:i<m.miles.length,¬ nf m m.miles[i].stage
theorem l8 {m:aF} {c i:Nat} (h:c ≠ 5 /\ c ≠ 7 /\ c ≠ 8):wi m c i:=⟨fun e=>absurd e h.1,fun e=>absurd e h.2.1,fun e=>absurd e h.2.2⟩
abbrev ib (m:aF) (c i:Nat) (R:bS):Prop:=∃ b:Bool,R=val (.bool b) /\ (b=true -> wi m c i)
theorem HO (m:aF) (a i:Int) (k:Nat):bh Tryz.prog 47 [eI i,.rp [eI a]] (ib m 1 k):=by
 refine ay ae Tryz.func47 rfl (by decide) Tryz.ntmps47 Tryz.results47 rfl ?_
 repeat' first|refine gq ?_|decide|refine sp ?_ ?_<;>intro _|((with_reducible first|apply ak (g:=48)|apply aD (g:=48));exact (ju a i))
 all_goals exact co ⟨_,rfl,fun _=>l8 (by decide)⟩
theorem Ig (m:aF) (a b i:Int) (k:Nat):bh Tryz.prog 49 [eI i,.rp [eI a],.rp [eI b]] (ib m 2 k):=by
 refine ay ae Tryz.func49 rfl (by decide) Tryz.ntmps49 Tryz.results49 rfl ?_;have h1:=ju a i;have h2:=ju b i;cases e1:aR a i<;>cases e2:aR b i<;>rw [e1] at h1<;>rw [e2] at h2
 all_goals
  repeat' first|refine gq ?_|decide|refine sp ?_ ?_<;>intro _|refine cA h1 ?_|refine cA h2 ?_|fail
  all_goals exact co ⟨_,rfl,fun _=>l8 (by decide)⟩
theorem HI (m:aF) (a i:Int) (k:Nat):bh Tryz.prog 50 [eI i,.rp [eI a]] (ib m 3 k):=by
 refine ay ae Tryz.func50 rfl (by decide) Tryz.ntmps50 Tryz.results50 rfl ?_
 repeat' first|refine gq ?_|decide|refine sp ?_ ?_<;>intro _|((with_reducible first|apply ak (g:=48)|apply aD (g:=48));exact (ju a i))
 all_goals exact co ⟨_,rfl,fun _=>l8 (by decide)⟩
theorem HB (m:aF) (a i:Int) (k:Nat):bh Tryz.prog 51 [eI i,.rp [eI a]] (ib m 4 k):=by
 refine ay ae Tryz.func51 rfl (by decide) Tryz.ntmps51 Tryz.results51 rfl ?_
 repeat' first|refine gq ?_|decide|refine sp ?_ ?_<;>intro _|((with_reducible first|apply ak (g:=48)|apply aD (g:=48));exact (ju a i))
 all_goals exact co ⟨_,rfl,fun _=>l8 (by decide)⟩
theorem HQ (m:aF) (i:Nat) (hi:i<m.stages.length):bh Tryz.prog 52 [eI (i:Int),.rp [eI (fX m m.guards.length)]] (ib m 5 i):=by
 refine ay ae Tryz.func52 rfl (by decide) Tryz.ntmps52 Tryz.results52 rfl ?_;have h1:=ju (fX m m.guards.length) (i:Int);cases e1:aR (fX m m.guards.length) (i:Int)<;>rw [e1] at h1
 all_goals
  repeat' first|refine gq ?_|decide|refine sp ?_ ?_<;>intro _|refine cA h1 ?_|fail
  all_goals first
   | exact co ⟨true,rfl,fun _=>⟨fun _=>⟨hi,e1⟩,(fun h=>(by cases h)),(fun h=>(by cases h))⟩⟩
   | exact co ⟨false,rfl,(fun h=>(by cases h))⟩
theorem H5 (m:aF) (a i:Int) (k:Nat):bh Tryz.prog 53 [eI i,.rp [eI a]] (ib m 6 k):=by
 refine ay ae Tryz.func53 rfl (by decide) Tryz.ntmps53 Tryz.results53 rfl ?_
 repeat' first|refine gq ?_|decide|refine sp ?_ ?_<;>intro _|((with_reducible first|apply ak (g:=48)|apply aD (g:=48));exact (ju a i))
 all_goals exact co ⟨_,rfl,fun _=>l8 (by decide)⟩
theorem Im (m:aF) (hm:iJ m) (i:Nat) (hi:i<m.events.length) (hst:aA m.events[i].stage):bh Tryz.prog 54 [eI (i:Int),.rp (am m)] (ib m 7 i):=by
 refine ay ae Tryz.func54 rfl (by decide) Tryz.ntmps54 Tryz.results54 rfl ?_;obtain ⟨x,hx⟩:∃ x,x=m.events[i]:=⟨_,rfl⟩;have hrx:(m.events.map mt)[i]?.getD []=mt x:=by rw [hx];simp [hi]
 rw [<- hx] at hst
 repeat' first|refine ge (kf hi @hrx) ?_|decide|refine sp ?_ ?_<;>intro _
 refine bk [] [0,1,2,3,4,5,6] (.exec 7 (.exec 8 .done)) (by kernel_rfl) (by simp [ag.gc]) ?_
 repeat' first|refine ge (kf hi @hrx) ?_|decide|refine sp ?_ ?_<;>intro _
 refine dV (wb m hm hm.fit x.stage hst) fun R hR=>?_;obtain ⟨b,rfl,hb⟩:=hR;refine ⟨.inr ⟨trivial,trivial⟩,?_⟩;have hv1:∀ k,(val (.bool b)).r.shift k=eB b:=fun _=>rfl;have hv2:∀ k,ag.shift k (val (.bool b)).tab=[]:=fun _=>rfl;have hv3:(val (.bool b)).n=0:=rfl
 repeat' first|refine gf (kf hv1 (kf hv2 hv3)) ?_|decide|refine sp ?_ ?_<;>intro _
 all_goals exact co ⟨b,rfl,fun e=>⟨(fun h=>(by cases h)),fun _=>⟨hi,by rw [<- hx];exact hb e⟩,(fun h=>(by cases h))⟩⟩
theorem HW (m:aF) (hm:iJ m) (i:Nat) (hi:i<m.miles.length) (hst:aA m.miles[i].stage):bh Tryz.prog 56 [eI (i:Int),.rp (am m)] (ib m 8 i):=by
 refine ay ae Tryz.func56 rfl (by decide) Tryz.ntmps56 Tryz.results56 rfl ?_;obtain ⟨x,hx⟩:∃ x,x=m.miles[i]:=⟨_,rfl⟩;have hrx:(m.miles.map ri)[i]?.getD []=ri x:=by rw [hx];simp [hi]
 rw [<- hx] at hst
 repeat' first|refine ge (kf hi @hrx) ?_|decide|refine sp ?_ ?_<;>intro _
 refine bk [] [0,1,2,3,4,5,6] (.exec 7 (.exec 8 .done)) (by kernel_rfl) (by simp [ag.gc]) ?_
 repeat' first|refine ge (kf hi @hrx) ?_|decide|refine sp ?_ ?_<;>intro _
 refine dV (wb m hm hm.fit x.stage hst) fun R hR=>?_;obtain ⟨b,rfl,hb⟩:=hR;refine ⟨.inr ⟨trivial,trivial⟩,?_⟩;have hv1:∀ k,(val (.bool b)).r.shift k=eB b:=fun _=>rfl;have hv2:∀ k,ag.shift k (val (.bool b)).tab=[]:=fun _=>rfl;have hv3:(val (.bool b)).n=0:=rfl
 repeat' first|refine gf (kf hv1 (kf hv2 hv3)) ?_|decide|refine sp ?_ ?_<;>intro _
 all_goals exact co ⟨b,rfl,fun e=>⟨(fun h=>(by cases h)),(fun h=>(by cases h)),fun _=>⟨hi,by rw [<- hx];exact hb e⟩⟩⟩
theorem H0 (m:aF) (hf:iC m) (i:Nat) (hi:i<m.guards.length):bh Tryz.prog 57 [eI (i:Int),.rp (am m)] (ib m 9 i):=by
 refine ay ae Tryz.func57 rfl (by decide) Tryz.ntmps57 Tryz.results57 rfl ?_;have hl:=hf.guards _ (IZ hi);obtain ⟨x,hx⟩:∃ x,x=m.guards[i]:=⟨_,rfl⟩;have hrx:(m.guards.map xL)[i]?.getD []=xL x:=by rw [hx];simp [hi]
 rw [<- hx] at hl
 repeat' first|refine gf (kf hi @hrx) ?_|decide|refine sp ?_ ?_<;>intro _|((with_reducible first|apply ak (g:=58)|apply aD (g:=58));exact (vS x.cond (by omega)))
 all_goals exact co ⟨_,rfl,fun _=>l8 (by decide)⟩
theorem Hi (m:aF) (hf:iC m) (i:Nat) (hi:i<m.miles.length):bh Tryz.prog 59 [eI (i:Int),.rp (am m)] (ib m 10 i):=by
 refine ay ae Tryz.func59 rfl (by decide) Tryz.ntmps59 Tryz.results59 rfl ?_;have hl:=hf.miles _ (IZ hi);obtain ⟨x,hx⟩:∃ x,x=m.miles[i]:=⟨_,rfl⟩;have hrx:(m.miles.map ri)[i]?.getD []=ri x:=by rw [hx];simp [hi]
 rw [<- hx] at hl
 repeat' first|refine gf (kf hi @hrx) ?_|decide|refine sp ?_ ?_<;>intro _|((with_reducible first|apply ak (g:=58)|apply aD (g:=58));exact (vS x.cond (by omega)))
 all_goals exact co ⟨_,rfl,fun _=>l8 (by decide)⟩
theorem BC (m:aF) (hn:lH m) (e:Int) (he:b7 e m.events.length=true):∃ n:Int,ap Tryz.prog 46 [eI e,.rp (am m)] (val (.int .i64 n)):=by
 obtain ⟨k,rfl,hk⟩:∃ k:Nat,e=(k:Int) /\ k<m.events.length:=by
  unfold b7 at he;simp only [I2,Je] at he;exact ⟨e.toNat,by omega,by omega⟩
 obtain ⟨x,hx⟩:∃ x,x=m.events[k]:=⟨_,rfl⟩;have hrx:(m.events.map mt)[k]?.getD []=mt x:=by rw [hx];simp [hk]
 have h1:=(hn.events k hk).1;rw [<- hx] at h1
 obtain ⟨j,hj,hjl⟩:∃ j:Nat,x.role=(j:Int) /\ j<m.roles.length:=by
  unfold b7 at h1;simp only [I2,Je] at h1;exact ⟨x.role.toNat,by omega,by omega⟩
 obtain ⟨y,hy⟩:∃ y,y=m.roles[j]:=⟨_,rfl⟩;have hry:(m.roles.map rh)[j]?.getD []=rh y:=by rw [hy];simp [hjl]
 refine ⟨y.2,?_⟩;refine aa ae Tryz.func46 rfl (by decide) Tryz.ntmps46 Tryz.results46 rfl (aq _) ?_
 repeat' first|refine gf (kf hk (kf @hjl (kf @hrx (kf @hry hj)))) ?_|decide|refine sp ?_ ?_<;>intro _
theorem FA (m:aF) (hn:lH m) (i:Nat) (hi:i<m.sods.length):bh Tryz.prog 60 [eI (i:Int),.rp [.fn 46 [.rp (am m)]],.rp (am m)] (ib m 11 i):=by
 refine ay ae Tryz.func60 rfl (by decide) Tryz.ntmps60 Tryz.results60 rfl ?_;obtain ⟨x,hx⟩:∃ x,x=m.sods[i]:=⟨_,rfl⟩;have hrx:(m.sods.map rj)[i]?.getD []=rj x:=by rw [hx];simp [hi]
 obtain ⟨h1,h2,-⟩:=hn.sods i hi;rw [<- hx] at h1 h2;obtain ⟨p,hp⟩:=BC m hn x.1 h1;obtain ⟨q,hq⟩:=BC m hn x.2 h2
 repeat' first|refine gf (kf hi @hrx) ?_|decide|refine sp ?_ ?_<;>intro _|refine cA hp ?_|refine cA hq ?_|fail
 all_goals exact co ⟨_,rfl,fun _=>l8 (by decide)⟩
end
section
theorem F4 (m:aF) (c:List Int) {k:Nat} (hk:k<m.events.length) (h0:0<=m.events[k].times):Cs m c k<=m.events[k].times * (m.events[k].sets.length:Int):=by
 unfold Cs;have hw:=rM c k;simp only [IU hk,JV,Ju];have h1:(((max 0 (m.events[k].times - qy c k)).toNat:Nat):Int)<=m.events[k].times:=by omega
 exact Int.mul_le_mul_of_nonneg_right h1 (Kn _)
theorem tF (m:aF) (c:List Int) (hw:iV m.events):∀ k,k<=m.events.length -> fb m c k<=fG (m.events.take k)
 | 0,_=>by simp [fb,fG]
 | k+1,hk=>by
  have h1:=tF m c hw k (by omega);have h2:=F4 m c (k:=k) (by omega) (hw.each k (by omega)).1;rw [fb,fr (by omega)];omega
theorem CC (m:aF) (c:List Int) (k:Nat):0<=Cs m c k:=by
 unfold Cs;exact Int.mul_nonneg (Kn _) (Kn _)
theorem o7 (m:aF) (c:List Int):∀ k,0<=fb m c k
 | 0=>Int.le_refl _
 | k+1=>by
  have:=o7 m c k;have:=CC m c k;rw [fb];omega
theorem tv {l:List Ev} (hw:iV l):∀ {k:Nat} (hk:k<l.length) (n:Nat),k<n -> n<=l.length -> l[k].times * (l[k].sets.length:Int)<=fG (l.take n)
 | k,hk,0,h,_=>absurd h (by omega)
 | k,hk,n+1,h,hn=>by
  have h0:∀ i (hi:i<l.length),0<=l[i].times * (l[i].sets.length:Int):=fun i hi=>Int.mul_nonneg (hw.each i hi).1 (Kn _)
  have hp:∀ j,j<=l.length -> 0<=fG (l.take j):=fun j=>by
   induction j with
   | zero=>intro _;simp [fG]
   | succ j ih=>
    intro hj;have:=ih (by omega);have:=h0 j (by omega);rw [fr (by omega)];omega
  rw [fr (by omega)];by_cases e:k=n
  .subst e;have:=hp k (by omega);omega
  .have:=tv hw hk n (by omega) (by omega);have:=h0 n (by omega);omega
theorem sy {m:aF} (h:mn m) {k:Nat} (hk:k<m.events.length):m.events[k].sets.length<=4:=by
 have h1:=tv h.writes hk m.events.length hk (I6 _);rw [I9] at h1;have h2:=h.sum;obtain ⟨h3,h4,h5⟩:=h.writes.each k hk;by_cases e:m.events[k].times=0
 .have:=h5 e;omega
 .have h6:(1:Int) * (m.events[k].sets.length:Int)<=m.events[k].times * (m.events[k].sets.length:Int):=Int.mul_le_mul_of_nonneg_right (by omega) (Kn _);omega
theorem GT {m:aF} (h:mn m) (c:List Int):0<=fb m c m.events.length /\ fb m c m.events.length<=4:=by
 have h1:=tF m c h.writes m.events.length (I6 _);rw [I9] at h1;have h2:=h.sum;exact ⟨o7 m c _,by omega⟩
end
end
section
section
theorem zU {st:ai} (id:Nat) {e:TypeId} {sz:Nat} {rows rows':List (List AV)} (hid:st.tab.get id=some (.row e sz rows)) (hf:iW rows rows'):dw st ⟨st.n,st.env,(id,some (.row e sz rows')) :: st.tab,st.next⟩:=by
 intro cx a w L h
 have hget:∀ k o,ag.get ((id,some (.row e sz rows')) :: st.tab) k=some o -> ∃ o',st.tab.get k=some o' /\ o.sz=o'.sz:=fun k o hk=>by
  rw [ag.gc] at hk;split at hk
  .rename_i e1;cases hk;exact ⟨.row e sz rows,by rw [e1];exact hid,rfl⟩
  .exact ⟨o,hk,rfl⟩
 have hext:iu cx w st.tab L st.next w ((id,some (.row e sz rows')) :: st.tab) L:=⟨fun _ _=>rfl,fun b hb=>⟨hb.1,hb.2.1,fun k o hk=>by
  obtain ⟨o',h1,_⟩:=hget k o hk;exact hb.2.2 k o' h1⟩,fun k p _ hk=>by
  unfold Kx at *
  cases ho:ag.get ((id,some (.row e sz rows')) :: st.tab) k with
  | none=>simp [ho] at hk
  | some o=>
   obtain ⟨o',h1,h2⟩:=hget k o ho;rw [h1];simpa [ho,h2] using hk⟩
 have hob:=h.lay.objs id _ hid;obtain ⟨hl,hx⟩:=hf.spec
 refine ⟨L,⟨⟨h.lay.below,fun k o hk=>?_,fun k k' o o' g h1 h2=>?_,fun b hb=>⟨(h.lay.ex b hb).1,fun k o hk=>by
  obtain ⟨o',h1,_⟩:=hget k o hk;exact (h.lay.ex b hb).2 k o' h1⟩⟩,h.size,h.defers.mono (fun _ _=>rfl) hext.sub,fun k o hk=>?_,fun t=>⟨hext.rv (h.env t).1 (h.env t).2,(h.env t).2⟩⟩,hext.sub⟩
 .rw [ag.gc] at hk;split at hk
  .rename_i e1;cases hk;rw [e1];obtain ⟨h1,xs,h2,h3,h4⟩:=hob;refine ⟨fun row' hr=>?_,xs,by rw [<- hl];exact h2,h3,fun i j row' av' h5 h6=>?_⟩
   .obtain ⟨i,hi⟩:=JL hr;obtain ⟨row,h7,h8⟩:=hx i row' hi;rw [<- h8.spec.1];exact h1 row (p0 h7)
   .obtain ⟨row,h7,h8⟩:=hx i row' h5;obtain ⟨av,h9,h10⟩:=h8.spec.2 j av' h6;exact (h4 i j row av h7 h9).elim fun x hx2=>⟨x,hx2.1,hext.rt (h10.rt hx2.2)⟩
  .exact hext.obj (h.lay.objs k o hk) (h.young k o hk).2 fun _ _=>rfl
 .obtain ⟨o1,h3,_⟩:=hget k o h1;obtain ⟨o2,h4,_⟩:=hget k' o' h2;exact h.lay.sep k k' o1 o2 g h3 h4
 .rw [ag.gc] at hk;split at hk
  .rename_i e1;cases hk;exact ⟨by rw [e1];exact (h.young id _ hid).1,trivial⟩
  .exact h.young k o hk
structure AM (a b:Int) (n:Nat) (L:List (List Int)):Prop where
 len:L.length<=153 ^ n
 row:∀ l ∈ L,l.length=n /\ ∀ x ∈ l,a<=x /\ x<=b
abbrev tH (L:List (List Int)):List (List AV):=L.map fun l=>[sI l]
def Ed (c:Int) (st:ai) (t:Nat):Nat:=match st.get t with | .c (.int _ n)=>(n - c).toNat | _=>0
theorem Iu (a b:Int):AM a b 0 [[]]:=⟨by simp,fun l hl=>by rw [Jg.1 hl];exact ⟨rfl,(fun x hx=>(by cases hx))⟩⟩
theorem Ba {k:Nat} (h:k<=4):153 ^ k<=547981281 /\ (153:Nat) ^ (k+1)=153 ^ k * 153:=by
 refine ⟨?_,Nat.pow_succ ..⟩;rcases (by omega:k=0 \/ k=1 \/ k=2 \/ k=3 \/ k=4) with rfl|rfl|rfl|rfl|rfl<;>decide
theorem D3 (a b:Int) (n:Nat) (hn:n<=4) (ha:-100<=a) (hb:b<=100) (hab:a<=b) (hw:b - a<=152):bh Tryz.prog 68 [eI a,eI b,eI (n:Int)] fun R=>∃ L,AM a b n L /\ R=cu 23 1 (tH L):=by
 refine ay ae Tryz.func68 rfl (by decide) Tryz.ntmps68 Tryz.results68 rfl ?_
 repeat' first|refine go ?_|decide|refine sp ?_ ?_<;>intro _
 refine ⟨rfl,?_⟩;refine af (fun st=>∃ (k:Nat) (L:List (List Int)),(k<=n /\ AM a b k L) /\ st=⟨44,[(0,eI a),(1,eI b),(2,eI (n:Int)),(7,.osl 0),(8,eI (k:Int))],[(0,some (.row 23 1 (tH L)))],1⟩) (fun st=>n - aw st 8) ?_ ?_
 .refine ⟨_,(zU (e:=23) (sz:=1) (rows:=[[.c (.slice none 0 0)]]) (rows':=tH [[]]) 0 ?h1 ⟨⟨.nil 1,trivial⟩,trivial⟩).trans ?h3,0,[[]],⟨IY _,Iu a b⟩,rfl⟩
  case h1=>simp [ag.gc]
  case h3=>exact (wR [0])
 rintro _ ⟨k,L,⟨hk,hL⟩,rfl⟩;by_cases hlt:k<n
 .obtain ⟨p1,p2⟩:=Ba (show k<=4 by omega);have hLl:=hL.len;have hLn:L.length<=547981281:=by omega
  repeat' first|refine ge @hlt ?_|decide|refine sp ?_ ?_<;>intro _
  refine af (fun st=>∃ (i:Nat) (M:List (List Int)),(i<=L.length /\ M.length<=i * 153 /\ ∀ l ∈ M,l.length=k+1 /\ ∀ x ∈ l,a<=x /\ x<=b) /\ st=⟨44,[(0,eI a),(1,eI b),(2,eI (n:Int)),(7,.osl 0),(8,eI (k:Int)),(9,.osl 1),(10,eI (i:Int))],[(0,some (.row 23 1 (tH L))),(1,some (.row 23 1 (tH M)))],2⟩) (fun st=>L.length - aw st 10) ⟨_,((aW 9 23 1 (by simp only [f9,ai.get,a7,ai.put,↓reduceIte,reduceCtorEq,Nat.reduceLT,Nat.reduceEqDiff,Nat.reduceAdd,Nat.reduceLeDiff,eq_self,implies_true,Jo])).trans (wS [0,1] trivial)),0,[],⟨IY _,IY _,fun l h=>by cases h⟩,rfl⟩ ?_;rintro _ ⟨i,M,⟨hi,hM,hMr⟩,rfl⟩;by_cases hli:i<L.length
  .obtain ⟨l,hl⟩:∃ l,l=L[i]:=⟨_,rfl⟩;have hrl:(tH L)[i]?.getD []=[sI l]:=by rw [hl];simp [hli]
   obtain ⟨h1,h2⟩:=hL.row l (hl ▸ IZ hli)
   repeat' first|refine ge @hli ?_|decide|refine sp ?_ ?_<;>intro _
   refine af (fun st=>∃ (j:Nat) (x:Int) (Q:List (List Int)),(x=a+(j:Int) /\ x<=b+1 /\ Q.length<=M.length+j /\ ∀ l ∈ Q,l.length=k+1 /\ ∀ x ∈ l,a<=x /\ x<=b) /\ st=⟨44,[(0,eI a),(1,eI b),(2,eI (n:Int)),(7,.osl 0),(8,eI (k:Int)),(9,.osl 1),(10,eI (i:Int)),(11,eI x)],[(0,some (.row 23 1 (tH L))),(1,some (.row 23 1 (tH Q)))],2⟩) (fun st=>200 - Ed a st 11) ⟨_,wC,0,a,M,⟨by omega,by omega,by omega,hMr⟩,rfl⟩ ?_;rintro _ ⟨j,x,Q,⟨hx,hj,hQ,hQr⟩,rfl⟩;by_cases hlj:x<=b
   .have d1:decide (x<=b)=true:=Jc hlj;have w1:IntKind.i64.wrap (x+1)=x+1:=aP (by omega) (by omega);have hQl:Q.length<=547981281 * 153+200:=(by omega);have et:tH (Q ++ [l ++ [x]])=tH Q ++ [[.sl 1 ((l.map fun n=>[eI n]) ++ [[eI x]])]]:=(by simp)
    have hQn:∀ l' ∈ Q ++ [l ++ [x]],l'.length=k+1 /\ ∀ x ∈ l',a<=x /\ x<=b:=fun l' hl'=>by
     rcases Ja.1 hl' with h|h
     .exact hQr l' h
     .rw [Jg.1 h];refine ⟨by simp [h1],fun y hy=>?_⟩;rcases Ja.1 hy with h3|h3
      .exact h2 y h3
      .rw [Jg.1 h3];omega
    repeat' first|refine gf (kf @hli (kf @hrl d1)) ?_|decide|refine sp ?_ ?_<;>intro _|(with_reducible apply And.intro)
    all_goals first
     | rfl
     | omega
     | exact jU (wS [0,7] (kf et w1)) ⟨j+1,x+1,Q ++ [l ++ [x]],⟨by omega,by omega,by rw [I0,Jr];omega,hQn⟩,rfl⟩ (by simp only [aw,Ed,f9,ai.get,a7,ai.put,↓reduceIte,reduceCtorEq,Nat.reduceLT,Nat.reduceEqDiff,Nat.reduceAdd,Nat.reduceLeDiff,eq_self,implies_true];omega)
   .have d1:decide (x<=b)=false:=I3 hlj
    repeat' first|refine gf (kf @hli d1) ?_|decide|refine sp ?_ ?_<;>intro _
    all_goals exact rI wC ⟨i+1,Q,⟨by omega,by omega,hQr⟩,rfl⟩
  .obtain rfl:i=L.length:=by omega
   repeat' first|refine gf @hli ?_|decide|refine sp ?_ ?_<;>intro _
   all_goals exact rI (wR [1]) ⟨k+1,M,⟨by omega,⟨by omega,hMr⟩⟩,rfl⟩
 .obtain rfl:k=n:=by omega
  repeat' first|refine gf @hlt ?_|decide|refine sp ?_ ?_<;>intro _
  all_goals exact kE rfl ⟨L,hL,rfl⟩
structure qv (m:aF) (s:St) (a b:Int) (v:Mv):Prop where
 of:∃ u ∈ gu m s,v.event=u.event /\ v.user=u.user /\ v.vals.length=u.vals.length
 four:v.vals.length<=4
 in_:∀ x ∈ v.vals,a<=x /\ x<=b
theorem x7 (m:aF) (s:St) (h:mn m):(gu m s).length<=24 /\ ∀ v ∈ gu m s,v.vals.length<=4:=by
 have h1:=mC m s m.events.length;have h2:=h.chk.users;have h3:=h.chk.events;have h4:=Nat.mul_le_mul h2 h3;unfold gu;split
 .unfold j3;split
  .refine ⟨by simp,fun v hv=>?_⟩;rw [Jg.1 hv];simp
  .refine ⟨by omega,fun v hv=>?_⟩;obtain ⟨e,he⟩:=pU (I6 _) v hv;rw [he.len];have h5:=sy h he.lt;simpa [he.lt] using h5
 .exact ⟨by simp,fun v hv=>by cases hv⟩
theorem Dk {P:Program} {f:FuncId} {args:List AV} (e:TypeId) {sz:Nat} {Q:List (List AV) -> Prop} (h:bh P f args fun R=>∃ rows,Q rows /\ R=cu e sz rows):bh P f args fun R=>∃ rows,Q rows /\ R=⟨.sl sz rows,[],0⟩:=
 ((h.frz 0).drop).mono fun R hR=>by
  obtain ⟨R1,⟨R2,⟨rows,hq,rfl⟩,rfl⟩,h4⟩:=hR;rcases h4 with ⟨_,rfl⟩|⟨h4,_⟩
  .exact ⟨rows,hq,by simp [bS.frz,cu,ag.gc,AV.frz]⟩
  .exact absurd (by simp [bS.frz,cu,ag.gc,AV.frz,AV.lt]) h4
theorem wM (m:aF) (s:St) (a b:Int) (hm:iJ m) (hs:iK s) (hc:mn m) (ha:-100<=a) (hb:b<=100) (hab:a<=b) (hw:b - a<=152) :
  bh Tryz.prog 22 [.agg (am m),.agg (cJ s),eI a,eI b] fun R=>∃ L:List Mv,((∀ v ∈ L,qv m s a b v) /\ L.length<=13151550744) /\ R=⟨nV L,[],0⟩:=by
 suffices hh:bh Tryz.prog 22 [.agg (am m),.agg (cJ s),eI a,eI b] (fun R=>∃ rows,(∃ L:List Mv,rows=L.map oU /\ (∀ v ∈ L,qv m s a b v) /\ L.length<=13151550744) /\ R=cu 82 3 rows) by
  refine (Dk _ hh).mono fun R hR=>?_;obtain ⟨rows,⟨L,rfl,h1,h2⟩,rfl⟩:=hR;exact ⟨L,⟨h1,h2⟩,rfl⟩
 refine ay ae Tryz.func22 rfl (by decide) Tryz.ntmps22 Tryz.results22 rfl ?_;have hM:=yG m s hm hs;obtain ⟨hl24,hv4⟩:=x7 m s hc;have hMP:∀ u ∈ gu m s,∀ l:List Int,l.length=u.vals.length -> (∀ x ∈ l,a<=x /\ x<=b) -> qv m s a b ⟨u.event,u.user,l⟩:=fun u hu l h1 h2=>⟨⟨u,hu,rfl,rfl,h1⟩,by rw [h1];exact hv4 u hu,h2⟩;obtain ⟨V,hV⟩:∃ V,V=gu m s:=⟨_,rfl⟩;rw [<- hV] at hM hl24 hv4 hMP
 repeat' first|refine gq ?_|decide|refine sp ?_ ?_<;>intro _|refine cA hM ?_|fail
 refine af (fun st=>∃ (i:Nat) (L:List Mv),(i<=V.length /\ L.length<=i * 547981281 /\ ∀ v ∈ L,qv m s a b v) /\ st=⟨57,[(2,eI a),(3,eI b),(9,nV V),(10,.osl 0),(11,eI (i:Int))],[(0,some (.row 82 3 (L.map oU)))],1⟩) (fun st=>V.length - aw st 11) ⟨_,((aW 10 82 3 (by simp only [f9,ai.get,a7,ai.put,↓reduceIte,reduceCtorEq,Nat.reduceLT,Nat.reduceEqDiff,Nat.reduceAdd,Nat.reduceLeDiff,eq_self,implies_true,Jo])).trans (wS [2] trivial)),0,[],⟨IY _,IY _,fun v h=>by cases h⟩,rfl⟩ ?_;rintro _ ⟨i,L,⟨hi,hLl,hLP⟩,rfl⟩;by_cases hlt:i<V.length
 .obtain ⟨v,hv⟩:∃ v,v=V[i]:=⟨_,rfl⟩;have hmem:v ∈ V:=hv ▸ IZ hlt;have hrv:(V.map oU)[i]?.getD []=oU v:=by rw [hv];simp [hlt]
  have hF:=D3 a b v.vals.length (hv4 v hmem) ha hb hab hw
  repeat' first|refine ge (kf @hlt @hrv) ?_|decide|refine sp ?_ ?_<;>intro _
  refine dV hF fun R hR=>?_;obtain ⟨F,hFP,rfl⟩:=hR;refine ⟨ro,?_⟩;have hF4:F.length<=547981281:=Jn hFP.len (Ba (hv4 v hmem)).1;have hsh:∀ k,(cu 23 1 (tH F)).r.shift k=.osl (0+k):=fun _=>rfl;have hts:∀ k,ag.shift k (cu 23 1 (tH F)).tab=[(0+k,some (.row 23 1 (tH F)))]:=fun k=>by simp [cu,eJ,dD,aE.shift]
  have hn1:(cu 23 1 (tH F)).n=1:=rfl
  repeat' first|refine ge (kf @hsh (kf @hts (kf hn1 @JM))) ?_|decide|refine sp ?_ ?_<;>intro _
  refine af (fun st=>∃ (k:Nat) (Q:List Mv),(k<=F.length /\ Q.length<=L.length+k /\ ∀ v ∈ Q,qv m s a b v) /\ st=⟨57,[(2,eI a),(3,eI b),(9,nV V),(10,.osl 0),(11,eI (i:Int)),(12,.osl 1),(13,eI (k:Int))],[(0,some (.row 82 3 (Q.map oU))),(1,some (.row 23 1 (tH F)))],2⟩) (fun st=>F.length - aw st 13) ⟨_,(wR [0,1]),0,L,⟨IY _,by omega,hLP⟩,rfl⟩ ?_;rintro _ ⟨k,Q,⟨hk,hQl,hQP⟩,rfl⟩;by_cases hlk:k<F.length
  .obtain ⟨l,hl⟩:∃ l,l=F[k]:=⟨_,rfl⟩;have hrl:(tH F)[k]?.getD []=[sI l]:=by rw [hl];simp [hlk]
   obtain ⟨h1,h2⟩:=hFP.row l (hl ▸ IZ hlk);have hNew:=hMP v hmem l h1 h2;have et:(Q ++ [(⟨v.event,v.user,l⟩:Mv)]).map oU=Q.map oU ++ [[eI v.event,eI v.user,sI l]]:=(by simp)
   have hQn:∀ v' ∈ Q ++ [(⟨v.event,v.user,l⟩:Mv)],qv m s a b v':=fun v' h=>by
    rcases Ja.1 h with h|h
    .exact hQP v' h
    .rw [Jg.1 h];exact hNew
   have hi24:i * 547981281<=24 * 547981281:=Jm _ (by omega)
   repeat' first|refine ge @hlk ?_|decide|refine sp ?_ ?_<;>intro _
   refine bk [0] [0,1,2,3,4,5,6,7,8,9,10,11,12,13,14,15] (.exec 16 (.exec 17 (.exec 18 .done))) (by kernel_rfl) (by simp [ag.gc]) ?_
   repeat' first|refine gf (kf @hlk (kf @hlt (kf @hrl @hrv))) ?_|decide|refine sp ?_ ?_<;>intro _|(with_reducible apply And.intro)
   all_goals first
    | rfl
    | omega
    | exact rI (wS [3,1] et) ⟨k+1,Q ++ [⟨v.event,v.user,l⟩],⟨by omega,by rw [I0,Jr];omega,hQn⟩,rfl⟩
  .obtain rfl:k=F.length:=by omega
   repeat' first|refine gf @hlk ?_|decide|refine sp ?_ ?_<;>intro _
   all_goals exact rI (wR [0]) ⟨i+1,Q,⟨by omega,by omega,hQP⟩,rfl⟩
 .obtain rfl:i=V.length:=by omega
  have hi24:V.length * 547981281<=24 * 547981281:=Jm _ hl24
  repeat' first|refine gf @hlt ?_|decide|refine sp ?_ ?_<;>intro _
  all_goals exact kE rfl ⟨_,⟨L,rfl,hLP,by omega⟩,rfl⟩
theorem CP {r:Int} (h0:0<=r) (h:r<=4):0<=wW r /\ wW r<=15:=by
 rcases (by omega:r=0 \/ r=1 \/ r=2 \/ r=3 \/ r=4) with rfl|rfl|rfl|rfl|rfl<;>decide
theorem xD (m:aF) (c:List Int) (s:St) (hf:iC m) (hck:mn m) (hs:iK s) (hcl:c.length<=100000) :
  bh Tryz.prog 21 [.agg (am m),sI c,.agg (cJ s)] fun R=>∃ (a b:Int) (ok:Bool),(ok=true -> -100<=a /\ b<=100 /\ a<=b /\ b - a<=152) /\ R=⟨.tup [eI a,eI b,eB ok],[],0⟩:=by
 refine ay ae Tryz.func21 rfl (by decide) Tryz.ntmps21 Tryz.results21 rfl ?_;have hvl:=hs.vals;have hcnt:=hs.cnt;obtain ⟨h40,h44⟩:=GT hck s.cnt
 have hmE:∀ e ∈ m.events,e.times<=10 /\ e.sets.length<=10:=fun x hx=>by
  obtain ⟨i,hi,rfl⟩:=Jw hx;have h1:=(hck.writes.each i hi).2.1;have h2:=sy hck hi;exact ⟨by omega,by omega⟩
 have hLf:=Br m s.cnt hf.sizes.2.2.2.1 hmE (by omega);have hCp:=Ip (fb m s.cnt m.events.length);obtain ⟨c0,c15⟩:=CP h40 h44;obtain ⟨q,hq⟩:∃ q,q=wW (fb m s.cnt m.events.length):=⟨_,rfl⟩;rw [<- hq] at hCp c0 c15;have wq:IntKind.i64.wrap (q+1)=q+1:=aP (by omega) (by omega);obtain ⟨A,hA⟩:∃ A,A=s.vals ++ c:=⟨_,rfl⟩;have hAm:s.vals.map (fun n=>[eI n]) ++ c.map (fun n=>[eI n])=A.map fun n=>[eI n]:=by rw [hA,Jl]
 have hAl:A.length<=100010:=by rw [hA,I0];omega
 repeat' first|refine gq ?_|decide|refine sp ?_ ?_<;>intro _|(with_reducible apply And.intro)
 all_goals first
  | rfl
  | omega
  | skip
 refine af (fun st=>∃ (k:Nat) (lo hi:Int),(k<=A.length /\ -60<=lo /\ lo<=hi /\ hi<=60) /\ st=⟨78,[(3,.op 0 0 0),(5,.op 1 0 0),(9,.osl 2),(10,eI lo),(11,eI hi),(12,eI (k:Int))],[(0,some (.box 32 (am m))),(1,some (.box 47 (cJ s))),(2,some (.row 2 1 (A.map fun n=>[eI n])))],3⟩) (fun st=>A.length - aw st 12) ⟨_,(wS [0,1,4] @hAm),0,0,0,⟨IY _,by omega,by omega,by omega⟩,rfl⟩ ?_;rintro _ ⟨k,lo,hi,⟨hk,b1,b2,b3⟩,rfl⟩;by_cases hlt:k<A.length
 .obtain ⟨x,hx⟩:∃ x,x=A[k]:=⟨_,rfl⟩;have hrx:(A.map fun n=>[eI n])[k]?.getD []=[eI x]:=by rw [hx];simp [hlt]
  by_cases x1:x < -60
  .have e1:decide (x < -60)=true:=Jc x1
   repeat' first|refine gf (kf @hlt (kf @hrx e1)) ?_|decide|refine sp ?_ ?_<;>intro _
   all_goals exact Dy ⟨0,0,false,(fun h=>(by cases h)),rfl⟩ (by simp [AV.lt,AV.ltL]) rfl
  .have e1:decide (x < -60)=false:=I3 x1;by_cases x2:60<x
   .have e2:decide (60<x)=true:=Jc x2
    repeat' first|refine gf (kf @hlt (kf @hrx (kf e1 e2))) ?_|decide|refine sp ?_ ?_<;>intro _
    all_goals exact Dy ⟨0,0,false,(fun h=>(by cases h)),rfl⟩ (by simp [AV.lt,AV.ltL]) rfl
   .have e2:decide (60<x)=false:=I3 x2;by_cases k0:k=0
    .subst k0;have q0:(((0:Nat):Int) == 0)=true:=rfl
     repeat' first|refine gf (kf @hlt (kf @hrx (kf e1 (kf e2 q0)))) ?_|decide|refine sp ?_ ?_<;>intro _
     all_goals exact rI wC ⟨1,x,x,⟨by omega,by omega,by omega,by omega⟩,rfl⟩
    .have q0:((k:Int) == 0)=false:=Jz.2 (by omega);by_cases y1:x<lo<;>by_cases y2:hi<x
     .omega
     .have f1:decide (x<lo)=true:=Jc y1;have f2:decide (hi<x)=false:=I3 y2
      repeat' first|refine gf (kf @hlt (kf @hrx (kf e1 (kf e2 (kf q0 (kf f1 f2)))))) ?_|decide|refine sp ?_ ?_<;>intro _
      all_goals exact rI wC ⟨k+1,x,hi,⟨by omega,by omega,by omega,by omega⟩,rfl⟩
     .have f1:decide (x<lo)=false:=I3 y1;have f2:decide (hi<x)=true:=Jc y2
      repeat' first|refine gf (kf @hlt (kf @hrx (kf e1 (kf e2 (kf q0 (kf f1 f2)))))) ?_|decide|refine sp ?_ ?_<;>intro _
      all_goals exact rI wC ⟨k+1,lo,x,⟨by omega,by omega,by omega,by omega⟩,rfl⟩
     .have f1:decide (x<lo)=false:=I3 y1;have f2:decide (hi<x)=false:=I3 y2
      repeat' first|refine gf (kf @hlt (kf @hrx (kf e1 (kf e2 (kf q0 (kf f1 f2)))))) ?_|decide|refine sp ?_ ?_<;>intro _
      all_goals exact rI wC ⟨k+1,lo,hi,⟨by omega,by omega,by omega,by omega⟩,rfl⟩
 .obtain rfl:k=A.length:=by omega
  have w1:IntKind.i64.wrap (lo - (q+1))=lo - (q+1):=aP (by omega) (by omega);have w2:IntKind.i64.wrap (hi+(q+1))=hi+(q+1):=aP (by omega) (by omega)
  repeat' first|refine gf (kf @hlt (kf wq (kf w1 w2))) ?_|decide|refine sp ?_ ?_<;>intro _|refine cA hLf ?_|refine cA hCp ?_|fail
  all_goals exact Dy ⟨lo - (q+1),hi+(q+1),true,fun _=>⟨by omega,by omega,by omega,by omega⟩,rfl⟩ (by simp [AV.lt,AV.ltL]) rfl
end
section
theorem gc {x:Int} (h:-9223372036854775808<=x /\ x<=9223372036854775807):wrap64 x=x:=by unfold wrap64;omega
theorem zu (x:Int):IntKind.u8.wrap x=x % 256:=by
 simp [IntKind.wrap,IntKind.bits,IntKind.signed]
def EF (u m:Nat) (L:List UInt8):Prop:=(m=0 -> L=Lib.decDigits u) /\ (0<m -> Lib.decDigits m ++ L=Lib.decDigits u)
theorem EF.step {u m:Nat} {L:List UInt8} (h:EF u m L) (hm:0<m):EF u (m / 10) (UInt8.ofNat (48+m % 10) :: L):=by
 have h2:=h.2 hm;by_cases h10:m<10
 .have e:m / 10=0:=by omega
  rw [e];refine ⟨fun _=>?_,fun h=>by omega⟩;rw [Lib.decDigits_one h10] at h2;rw [show m % 10=m by omega];simpa using h2
 .refine ⟨fun h=>by omega,fun _=>?_⟩;rw [Lib.decDigits,dif_neg h10] at h2;rw [<- h2];simp
theorem su (w:World) (d:Nat) (hd:d<=9):(convert 149 9 (.slice (some ⟨w.heap.size,0,none⟩) 1 1)).run Tryz.prog (w.alloc (.cells #[.int .u8 (48+(d:Int))] 5))=.ok (.string ⟨#[UInt8.ofNat (48+d)]⟩) (w.alloc (.cells #[.int .u8 (48+(d:Int))] 5)):=by
 refine run_convert_bytes_back (P:=Tryz.prog) _ 149 9 5 ⟨w.heap.size,0,none⟩ 1 [UInt8.ofNat (48+d)] Tryz.underlying149 Tryz.underlying5 Tryz.underlying9 (fun j hj=>?_);obtain rfl:j=0:=by simp at hj;omega
 rw [dK,(Hv.new w 5 #[.int .u8 (48+(d:Int))]).cell 0];have h:(UInt8.ofNat (48+d)).toNat=48+d:=by simp [UInt8.toNat_ofNat];omega
 simp only [List.getElem_cons_zero,h];simp
theorem wa:∀ (k u:Nat),u<10 ^ (k+1) -> Lib.nDigits u<=k+1
 | 0,u,h=>by rw [Lib.nDigits_small (by simpa using h)];exact I6 _
 | k+1,u,h=>by
  by_cases h10:u<10
  .rw [Lib.nDigits_small h10];omega
  .rw [Lib.nDigits_big h10];have:=wa k (u / 10) (by rw [Nat.pow_succ] at h;omega);omega
theorem EF.len {u m:Nat} {L:List UInt8} (h:EF u m L) (hu:u<=9223372036854775808):L.length<=20:=by
 have h1:=wa 19 u (by omega);rw [<- Lib.decDigits_length] at h1;rcases KL m with h0|h0
 .rw [h.1 h0];exact h1
 .rw [<- h.2 h0,I0] at h1;omega
theorem pR (n:Int) (w:World) (hn:-9223372036854775808<=n /\ n<=9223372036854775807) :
  Calls Tryz.prog 63 #[.int .i64 n] w fun e w'=>e=.returned (.string ⟨(Lib.itoa n).toArray⟩) /\ Below w.heap.size w w':=by
 obtain ⟨hn1,hn2⟩:=hn;by_cases h0:n=0
 .subst h0;have e0:((0:Int) == 0)=true:=rfl;have hd:(⟨(Lib.itoa 0).toArray⟩:ByteArray)=⟨#[48]⟩:=by decide +kernel
  rw [hd]
  go_enter Tryz.func63,Tryz.ntmps63
  go_wp2_with fail
  go_ret
  exact ⟨rfl,Below.refl _ _⟩
 .have e0:(n == 0)=false:=by rw [Jz];exact h0
  by_cases hneg:n<0
  .obtain ⟨u,hu⟩:∃ u:Nat,n = -(u:Int):=⟨n.natAbs,by omega⟩;subst hu;have hu0:0<u:=(by omega);have hit:Lib.itoa (-(u:Int))=45 :: Lib.decDigits u:=Lib.itoa_neg u hu0;rw [hit];have e1:decide (-(u:Int)<0)=true:=Jc (by omega);have e1':-(u:Int)<0:=(by omega);clear h0 hneg hit
   go_enter Tryz.func63,Tryz.ntmps63
   go_wp2_with fail
   go_loopw [0,3] (fun x t wr=>∃ (m:Nat) (S:ByteArray),m<=u /\ x=.int .i64 (-(m:Int)) /\ t=.string S /\ EF u m S.data.toList /\ Below w.heap.size w wr) (fun x t wr=>(intOf x).natAbs)
   case atStart=>exact ⟨u,⟨#[]⟩,I6 _,rfl,rfl,⟨fun h=>absurd h (by omega),fun _=>by simp⟩,Below.refl _ _⟩
   case round=>
    obtain ⟨m,S,hm,rfl,rfl,hP,hb⟩:=hrel;have hS:S.size<=20:=by have:=hP.len (by omega);rw [Js] at this;exact this
    by_cases hm0:m=0
    .subst hm0;have hL:=hP.1 rfl;have HL:=aO hL;have Hb:=aO hb;clear hP hL hb
     go_wp2_with fail
     go_ret
     have hfin:(⟨#[45]⟩:ByteArray) ++ S=⟨(45 :: Lib.decDigits u).toArray⟩:=by
      apply ByteArray.ext;apply Array.ext';simp [ByteArray.data_append,HL.out]
     exact ⟨by show Ending.returned (Value.string ((⟨#[45]⟩:ByteArray) ++ S))=_;rw [hfin],Hb.out⟩
    .have e2:(-(m:Int) != 0)=true:=by rw [bne_iff_ne];omega
     have hz0:(-(m:Int)).tmod 10 = -((m % 10:Nat):Int):=by rw [Int.neg_tmod,Ku (by omega)];simp
     have hy0:(-(m:Int)).tdiv 10 = -((m / 10:Nat):Int):=by rw [Int.neg_tdiv,Int.tdiv_eq_ediv_of_nonneg (by omega)];simp
     have hP2:=hP.step (by omega);have HP:=aO hP2;have Hb:=aO hb;have hd9:m % 10<=9:=(by omega);generalize m % 10=d at *;have hcv:=su wr d hd9;generalize UInt8.ofNat (48+d)=c at *;obtain ⟨y,hy⟩:∃ y,y=(-(m:Int)).tdiv 10:=⟨_,rfl⟩;obtain ⟨z,hz⟩:∃ z,z=(-(m:Int)).tmod 10:=⟨_,rfl⟩;obtain ⟨x,hx⟩:∃ x,x = -(m:Int):=⟨_,rfl⟩;rw [hy0] at hy;rw [hz0] at hz;rw [<- hx] at hz0 hy0 e2 ⊢;rw [<- hy] at hy0;rw [<- hz] at hz0;have hwy:=gc (x:=y) (by omega);have hmeas:y.natAbs<x.natAbs:=(by omega);have HY:=aO hy;have HX:=aO hx;have HM:=aO hmeas;clear hP hP2 hb hy hx hmeas;by_cases hd0:d=0
     .subst hd0;have hzz:z=0:=by rw [hz];rfl
      subst hzz;have hcv:(convert 149 9 (.slice (some ⟨wr.heap.size,0,none⟩) 1 1)).run Tryz.prog (wr.alloc (.cells #[.int .u8 48] 5))=.ok (.string ⟨#[c]⟩) (wr.alloc (.cells #[.int .u8 48] 5)):=hcv;clear hz
      go_wp2_with fail
      all_goals (try (exfalso;omega))
      go_roundw
      case rel=>
       refine ⟨m / 10,⟨#[c]⟩ ++ S,by omega,by first|rw [hwy,HY.out]|rw [HY.out],rfl,?_,Hb.out.alloc Hb.out.size _⟩;have h2:=HP.out;simpa [ByteArray.data_append] using h2
      case measure=>have h9:=HM.out;simp [intOf,hwy];omega
     .have hz1:z<0:=(by omega);have e3:decide (z<0)=true:=Jc hz1;have hwz:wrap64 (-z)=(d:Int):=by rw [gc (by omega)];omega
      have hw8:IntKind.u8.wrap (48+(d:Int))=48+(d:Int):=by rw [zu];omega
      have hwd:=gc (x:=48+(d:Int)) (by omega);rw [<- hwz] at hcv hw8 hwd;clear hz hwz
      go_wp2_with fail
      all_goals (try (exfalso;omega))
      go_roundw
      case rel=>
       refine ⟨m / 10,⟨#[c]⟩ ++ S,by omega,by first|rw [hwy,HY.out]|rw [HY.out],rfl,?_,Hb.out.alloc Hb.out.size _⟩;have h2:=HP.out;simpa [ByteArray.data_append] using h2
      case measure=>have h9:=HM.out;simp [intOf,hwy];omega
  .obtain ⟨u,hu⟩:∃ u:Nat,n=(u:Int):=⟨n.natAbs,by omega⟩;subst hu;have hu0:0<u:=(by omega);have hit:Lib.itoa ((u:Int))=Lib.decDigits u:=Lib.itoa_nonneg u;rw [hit];have e1:decide ((u:Int)<0)=false:=I3 (by omega);have e1':¬ (u:Int)<0:=(by omega);clear h0 hneg hit
   go_enter Tryz.func63,Tryz.ntmps63
   go_wp2_with fail
   go_loopw [0,3] (fun x t wr=>∃ (m:Nat) (S:ByteArray),m<=u /\ x=.int .i64 ((m:Int)) /\ t=.string S /\ EF u m S.data.toList /\ Below w.heap.size w wr) (fun x t wr=>(intOf x).natAbs)
   case atStart=>exact ⟨u,⟨#[]⟩,I6 _,rfl,rfl,⟨fun h=>absurd h (by omega),fun _=>by simp⟩,Below.refl _ _⟩
   case round=>
    obtain ⟨m,S,hm,rfl,rfl,hP,hb⟩:=hrel;have hS:S.size<=20:=by have:=hP.len (by omega);rw [Js] at this;exact this
    by_cases hm0:m=0
    .subst hm0;have hL:=hP.1 rfl;have HL:=aO hL;have Hb:=aO hb;clear hP hL hb
     go_wp2_with fail
     go_ret
     have hfin:(⟨#[]⟩:ByteArray) ++ S=⟨(Lib.decDigits u).toArray⟩:=by
      apply ByteArray.ext;apply Array.ext';simp [ByteArray.data_append,HL.out]
     exact ⟨by show Ending.returned (Value.string ((⟨#[]⟩:ByteArray) ++ S))=_;rw [hfin],Hb.out⟩
    .have e2:((m:Int) != 0)=true:=by rw [bne_iff_ne];omega
     have ht:(m:Int).tmod 10=((m % 10:Nat):Int):=by rw [Ku (by omega)];simp
     have htd:(m:Int).tdiv 10=((m / 10:Nat):Int):=by rw [Int.tdiv_eq_ediv_of_nonneg (by omega)];simp
     have e3:decide (((m % 10:Nat):Int)<0)=false:=I3 (by omega);have hP2:=hP.step (by omega);have HP:=aO hP2;have Hb:=aO hb;have hd9:m % 10<=9:=(by omega);generalize m % 10=d at *;have hw8:IntKind.u8.wrap (48+(d:Int))=48+(d:Int):=by rw [zu];omega
     have hwd:=gc (x:=48+(d:Int)) (by omega);have hwdd:=gc (x:=(d:Int)) (by omega);have hcv:=su wr d hd9;generalize UInt8.ofNat (48+d)=c at *;clear hP hP2 hb
     go_wp2_with fail
     all_goals (try (exfalso;omega))
     go_roundw
     case rel=>
      refine ⟨m / 10,⟨#[c]⟩ ++ S,by omega,by first|rfl|(simp;done)|(congr 1;omega),rfl,?_,Hb.out.alloc Hb.out.size _⟩;have h2:=HP.out;simpa [ByteArray.data_append] using h2
     case measure=>simp [intOf];omega
def nums (l:List UInt8):List Nat:=l.map UInt8.toNat
end
section
theorem qO:∀ (k u:Nat),u<10 ^ (k+1) -> (Lib.decDigits u).length<=k+1
 | 0,u,h=>by
  rw [Lib.decDigits,dif_pos (by simpa using h)];simp
 | k+1,u,h=>by
  rw [Lib.decDigits];split
  .simp
  .have:=qO k (u / 10) (by rw [Nat.pow_succ] at h;omega);rw [I0,Jr];omega
theorem fH {n:Int} (h:aA n):(Lib.itoa n).length<=20:=by
 have hp:(10:Nat) ^ (18+1)=10000000000000000000:=by decide
 obtain ⟨h1,h2⟩:=h;unfold Lib.itoa;split
 .have:=qO 18 n.natAbs (by omega);rw [Jh];omega
 .have:=qO 18 n.toNat (by omega);omega
theorem mL:∀ (l:List Int),(∀ n ∈ l,aA n) -> (Lib.joinTail [32] (l.map Lib.itoa)).length<=21 * l.length
 | [],_=>by simp [Lib.joinTail]
 | n :: l,h=>by
  have h1:=fH (h n (J2 ..));have h2:=mL l fun x hx=>h x (J0 _ hx);have e:Lib.joinTail [32] ((n :: l).map Lib.itoa)=32 :: (Lib.itoa n ++ Lib.joinTail [32] (l.map Lib.itoa)):=rfl;rw [e,Jh,I0,Jh];omega
theorem lB (l:List Int) (h:∀ n ∈ l,aA n):(fP l).length<=21 * l.length:=by
 cases l with
 | nil=>simp [fP,Lib.join_nil]
 | cons n l=>
  have h1:=fH (h n (J2 ..));have h2:=mL l fun x hx=>h x (J0 _ hx);rw [fM,I0,Jh];omega
def ky (l:List UInt8):ByteArray:=⟨l.toArray⟩
theorem nA (a b:List UInt8):ky a ++ ky b=ky (a ++ b):=by
 apply ByteArray.ext;simp [ky]
theorem mH (l:List UInt8):(ky l).size=l.length:=by
 show (ky l).data.size=_;simp [ky]
theorem ek (n:Int) (h:aA n):ap Tryz.prog 63 [eI n] (val (.string (ky (Lib.itoa n)))):=
 bo (bC Tryz.func63 rfl (by decide)) fun S w vs hS hn hv=>by
  have hn1:vs.size=1:=hn;obtain ⟨a,rfl⟩:∃ a,vs = #[a]:=⟨vs[0],by apply KS (by simpa using hn1);intro i h1 h2;simp at h2;subst h2;rfl⟩;obtain rfl:=xz (hv 0 a _ rfl rfl);exact pR n w h
theorem dz {a b c:List UInt8} (hc:a ++ b=c) (hl:c.length<=9223372036854775807):(if (ky a).size+(ky b).size<=9223372036854775807 then some (Value.string (ky a ++ ky b)) else none)=some (Value.string (ky c)):=by
 rw [I8 (by rw [mH,mH];rw [<- hc,I0] at hl;exact hl),nA,hc]
theorem rW {a b c:List UInt8} (hc:a ++ b=c):ky a ++ ky b=ky c:=by rw [nA,hc]
def fz (l:List Int) (k:Nat):List UInt8:=Lib.itoa (l.length:Int) ++ Lib.joinTail [32] ((l.take k).map Lib.itoa)
theorem eP (sep:List UInt8) (r s:List (List UInt8)):Lib.joinTail sep (r ++ s)=Lib.joinTail sep r ++ Lib.joinTail sep s:=by simp [Lib.joinTail]
theorem oZ (l:List Int) {k:Nat} (h:k<l.length):fz l (k+1)=fz l k ++ (32 :: Lib.itoa l[k]):=by
 unfold fz;rw [Jb h,Jl,eP,JJ];simp [Lib.joinTail]
theorem nM (l:List Int) (hl:l.length<=1000) (h:∀ n ∈ l,aA n) (k:Nat):(fz l k).length<=30000:=by
 have h1:=fH (n:=(l.length:Int)) (by unfold aA;omega);have h2:=mL (l.take k) fun n hn=>h n (JE hn);have h3:(l.take k).length<=1000:=by rw [Jf];omega
 unfold fz;rw [I0];omega
theorem pJ (l:List Int) (hl:l.length<=1000) (hok:∀ n ∈ l,aA n):ap Tryz.prog 64 [sI l] (val (.string (ky (fP ((l.length:Int) :: l))))):=by
 refine aa ae Tryz.func64 rfl (by decide) Tryz.ntmps64 Tryz.results64 rfl (aq _) ?_;have hp0:=ek (l.length:Int) (by unfold aA;omega);have h0:ky (Lib.itoa (l.length:Int))=ky (fz l 0):=by unfold fz;simp [Lib.joinTail]
 repeat' first|refine gq ?_|decide|refine sp ?_ ?_<;>intro _|refine cA hp0 ?_|fail
 refine af (fun st=>∃ k:Nat,k<=l.length /\ st=⟨23,[(0,sI l),(3,.c (.string (ky (fz l k)))),(4,eI (k:Int))],[],0⟩) (fun st=>l.length - aw st 4) ⟨_,(wE h0),0,IY _,rfl⟩ ?_;rintro _ ⟨k,hk,rfl⟩;by_cases hlt:k<l.length
 .have hp:=ek l[k] (hok _ (IZ hlt));have hstep:=oZ l hlt;have hln:=nM l hl hok (k+1);have hli:=fH (hok _ (IZ hlt));generalize hx:l[k]=x at *;have f32:(⟨#[32]⟩:ByteArray)=ky [32]:=rfl;have e1:=dz (a:=[32]) (b:=Lib.itoa x) (c:=32 :: Lib.itoa x) rfl (by rw [Jh];omega);have e2:=dz hstep.symm (by omega);have e3:=rW (a:=[32]) (b:=Lib.itoa x) (c:=32 :: Lib.itoa x) rfl;have e4:=rW hstep.symm
  repeat' first|refine gq ?_|simp only [ac,hlt,hx,f32,e1,e2]|decide|refine sp ?_ ?_<;>intro _|refine cA hp ?_|fail
  all_goals exact rI wC ⟨k+1,by omega,rfl⟩
 .obtain rfl:k=l.length:=by omega
  have hend:fz l l.length=fP ((l.length:Int) :: l):=by
   unfold fz;rw [I9,fM]
  rw [hend]
  repeat' first|refine gf @hlt ?_|decide|refine sp ?_ ?_<;>intro _
theorem xE (s:St) (h1:s.vals.length<=1000) (h2:s.did.length<=1000) (h3:s.cnt.length<=1000) (hv:∀ x ∈ s.vals,aA x) (ho:aA s.opn) (hd:aA s.don) (hdid:∀ x ∈ s.did,aA x) (hcnt:∀ x ∈ s.cnt,aA x):ap Tryz.prog 20 [.agg (cJ s)] (val (.string (ky (gO s)))):=by
 refine aa ae Tryz.func20 rfl (by decide) Tryz.ntmps20 Tryz.results20 rfl (aq _) ?_;have hp0:=ek (s.vals.length:Int) (by unfold aA;omega);have h0:ky (Lib.itoa (s.vals.length:Int))=ky (fz s.vals 0):=by unfold fz;simp [Lib.joinTail]
 repeat' first|refine gq ?_|decide|refine sp ?_ ?_<;>intro _|refine cA hp0 ?_|fail
 refine af (fun st=>∃ k:Nat,k<=s.vals.length /\ st=⟨46,[(1,.op 0 0 0),(3,.c (.string (ky (fz s.vals k)))),(4,eI (k:Int))],[(0,some (.box 47 (cJ s)))],1⟩) (fun st=>s.vals.length - aw st 4) ⟨_,(wE h0),0,IY _,rfl⟩ ?_;rintro _ ⟨k,hk,rfl⟩;have f32:(⟨#[32]⟩:ByteArray)=ky [32]:=rfl;by_cases hlt:k<s.vals.length
 .have hp:=ek s.vals[k] (hv _ (IZ hlt));have hstep:=oZ s.vals hlt;have hln:=nM s.vals h1 hv (k+1);have hli:=fH (hv _ (IZ hlt));generalize hx:s.vals[k]=x at *;have e1:=dz (a:=[32]) (b:=Lib.itoa x) (c:=32 :: Lib.itoa x) rfl (by rw [Jh];omega);have e2:=dz hstep.symm (by omega)
  repeat' first|refine gq ?_|simp only [ac,hlt,hx,f32,e1,e2]|decide|refine sp ?_ ?_<;>intro _|refine cA hp ?_|fail
  all_goals exact rI wC ⟨k+1,by omega,rfl⟩
 .obtain rfl:k=s.vals.length:=by omega
  have hpo:=ek s.opn ho;have hpd:=ek s.don hd;have hL1:=pJ s.did h2 hdid;have hL2:=pJ s.cnt h3 hcnt;have l0:=nM s.vals h1 hv s.vals.length;have l1:=fH ho;have l2:=fH hd;have l3:=lB ((s.did.length:Int) :: s.did) fun n hn=>(JO.1 hn).elim (fun e=>by rw [e];unfold aA;omega) (hdid n);have l4:=lB ((s.cnt.length:Int) :: s.cnt) fun n hn=>(JO.1 hn).elim (fun e=>by rw [e];unfold aA;omega) (hcnt n);rw [Jh] at l3 l4
  have hall:fz s.vals s.vals.length ++ [32] ++ Lib.itoa s.opn ++ [32] ++ Lib.itoa s.don ++ [32] ++ fP ((s.did.length:Int) :: s.did) ++ [32] ++ fP ((s.cnt.length:Int) :: s.cnt)=gO s:=by
   unfold gO ll fz;rw [I9,fM,fM,fM,Jl,eP];simp [Lib.joinTail,eP]
  have e1:=dz (a:=fz s.vals s.vals.length) (b:=[32]) rfl (by rw [I0];simp;omega);have e2:=dz (a:=fz s.vals s.vals.length ++ [32]) (b:=Lib.itoa s.opn) rfl (by simp;omega);have e3:=dz (a:=fz s.vals s.vals.length ++ [32] ++ Lib.itoa s.opn) (b:=[32]) rfl (by simp;omega);have e4:=dz (a:=fz s.vals s.vals.length ++ [32] ++ Lib.itoa s.opn ++ [32]) (b:=Lib.itoa s.don) rfl (by simp;omega);have e5:=dz (a:=fz s.vals s.vals.length ++ [32] ++ Lib.itoa s.opn ++ [32] ++ Lib.itoa s.don) (b:=[32]) rfl (by simp;omega);have e6:=dz (a:=fz s.vals s.vals.length ++ [32] ++ Lib.itoa s.opn ++ [32] ++ Lib.itoa s.don ++ [32]) (b:=fP ((s.did.length:Int) :: s.did)) rfl (by simp;omega);have e7:=dz (a:=fz s.vals s.vals.length ++ [32] ++ Lib.itoa s.opn ++ [32] ++ Lib.itoa s.don ++ [32] ++ fP ((s.did.length:Int) :: s.did)) (b:=[32]) rfl (by simp;omega);have e8:=dz (b:=fP ((s.cnt.length:Int) :: s.cnt)) hall (by rw [<- hall];simp;omega);generalize fz s.vals s.vals.length=t0 at *;generalize Lib.itoa s.opn=t1 at *;generalize Lib.itoa s.don=t2 at *;generalize fP ((s.did.length:Int) :: s.did)=t3 at *;generalize fP ((s.cnt.length:Int) :: s.cnt)=t4 at *;generalize gO s=T at *;clear l0 l1 l2 l3 l4 hall
  repeat' first|refine gf (kf @hlt (kf f32 (kf e1 (kf e2 (kf e3 (kf e4 (kf e5 (kf e6 (kf e7 e8))))))))) ?_|decide|refine sp ?_ ?_<;>intro _|refine cA hpo ?_|refine cA hpd ?_|refine cA hL1 ?_|refine cA hL2 ?_|fail
end
end
section
section
structure GS (m:aF) (s:St):Prop where
 good:iK s
 lint:lX m s
 chk:fe m s=true
theorem GS.did {m:aF} {s:St} (h:GS m s):s.did.length=m.events.length:=(kq.1 h.chk).2.1
theorem vZ {m:aF} {s:St} {a b:Int} {v:Mv} (h:qv m s a b v):gH m s v=0:=by
 obtain ⟨u,hu,h1,h2,h3⟩:=h.of;unfold gu at hu;split at hu
 .rename_i hc;unfold j3 at hu;split at hu
  .rename_i h0;rw [Jg.1 hu] at h1 h2 h3;have h4:v.vals=[]:=J5.1 h3;have h5:fN v=true:=by unfold fN;rw [h1,h2,h4];rfl
   have h6:=Cc h0;unfold gH;rw [I4 (by rw [hc];simp),I8 h5,I4 (by rw [h6];simp)]
  .obtain ⟨e,he⟩:=pU (I6 _) u hu;exact (Bn hc (e:=e) ⟨by rw [h1];exact he.ev,he.lt,by rw [h2];exact he.en,by rw [h3];exact he.len⟩).1
 .cases hu
theorem GS.cnt {m:aF} (hc:mn m) {s:St} (h:GS m s):∀ x ∈ s.cnt,aA x:=fun x hx=>by
 obtain ⟨_,_,h3,_,_,h6⟩:=kq.1 h.chk;obtain ⟨i,hi,rfl⟩:=Jw hx;have h7:=(i9 (by omega:i<m.events.length)).1 (h6 i (by omega));have h8:=(hc.writes.each i (by omega)).2.1;have e:s.cnt.getD i 0=s.cnt[i]:=by simp [hi]
 rw [e] at h7;unfold aA;omega
theorem DY {m:aF} {s:St} {a b:Int} {v:Mv} (hc:fe m s=true) (h:qv m s a b v):fe m (oD m s v).1=true:=by
 obtain ⟨u,hu,h1,h2,h3⟩:=h.of;have hmay:=vZ h;unfold gu at hu;rw [I8 hc] at hu;unfold j3 at hu;split at hu
 .rename_i h0;rw [Jg.1 hu] at h1 h2 h3;have h4:v.vals=[]:=J5.1 h3;have h5:fN v=true:=by unfold fN;rw [h1,h2,h4];rfl
  unfold oD;rw [I8 hmay,I8 h5];exact hc
 .obtain ⟨e,he⟩:=pU (I6 _) u hu;exact E1 hc (e:=e) ⟨by rw [h1];exact he.ev,he.lt,by rw [h2];exact he.en,by rw [h3];exact he.len⟩
theorem Ie {m:aF} {s:St} {a b:Int} {v:Mv} (hc:bX (pars m)<0) (h:GS m s) (hv:qv m s a b v) (ha:-100<=a) (hb:b<=100):GS m (oD m s v).1:=
 ⟨Dj m s v h.good fun x hx=>by have:=hv.in_ x hx;unfold aA;omega,C1 hc h.lint (vZ hv) h.did,DY h.chk hv⟩
theorem k6 (n:Nat):i5 0 (n:Int)=true:=by
 unfold i5 nC;have:(0:Int)<2 ^ (max 0 (min (n:Int) 31)).toNat:=Int.pow_pos (by omega);simp;omega
theorem un (m:aF) (h3:m.inits.length=m.attrs.length) (ht:∀ i (h:i<m.events.length),0<=m.events[i].times):fe m (fE m)=true:=by
 have hof:=qR (m:=m) (event:=-1) (m.order.take m.order.length) (s:=dE m) (k6 _) (k6 _);have hv:=gy m (-1) (m.order.take m.order.length) (dE m);have e1:(fE m).vals=m.inits:=hv.1;have e2:(fE m).did=List.replicate m.events.length 0:=hv.2.1;have e3:(fE m).cnt=List.replicate m.events.length 0:=hv.2.2
 have g:∀ i,(List.replicate m.events.length (0:Int)).getD i 0=0:=fun i=>by
  rw [JB,List.getElem?_replicate];split<;>rfl
 refine kq.2 ⟨by rw [e1,h3],by rw [e2];simp,by rw [e3];simp,hof.1,hof.2,fun i hi=>(i9 hi).2 ?_⟩;rw [e2,e3,g];exact ⟨k6 _,Int.le_refl _,ht i hi⟩
theorem yT {m:aF} (hm:iJ m) (hc:mn m):GS m (fE m):=
 ⟨uJ m hm.fit hm.inits,ul hc.chk.circle,un m hc.chk.inits fun i h=>(hc.writes.each i h).1⟩
theorem ur {s:St} (h:iK s) (h2:∀ x ∈ s.cnt,aA x):(gO s).length<=1000:=by
 have h1:=lB (ll s) fun n hn=>by
  have g1:=h.vals;have g2:=h.did;have g3:=h.cnt;unfold ll at hn;simp only [JO,Ja] at hn;rcases hn with rfl|hn|rfl|rfl|rfl|hn|rfl|hn
  .unfold aA;omega
  .exact h.nums n hn
  .exact h.ok.opn
  .exact h.ok.don
  .unfold aA;omega
  .exact h.ok.did n hn
  .unfold aA;omega
  .exact h2 n hn
 have e:(ll s).length<=35:=by
  have g1:=h.vals;have g2:=h.did;have g3:=h.cnt;unfold ll;simp only [Jh,I0];omega
 unfold gO;omega
theorem Fw:Maps.Keyed Tryz.prog 9:=Maps.string_keyed (by kernel_rfl)
theorem Iz {s:ByteArray} (h:s.size<=1000000):vj Tryz.prog 9 (.string s):=by
 have hu:Tryz.prog.underlying 9=some .string:=by kernel_rfl
 have hm:s.size<=maxLen:=by simp [maxLen];omega
 exact ⟨.string s.data.toList,by simp [keyOf,hu,mapKey,hm]⟩
def hZ (ents:List (Value × Value)):Prop:=∀ e ∈ ents,∃ (s:ByteArray) (n:Int),s.size<=1000000 /\ e=(.string s,.int .i64 n)
theorem hZ.fit {ents:List (Value × Value)} (h:hZ ents) {s:ByteArray} (hs:s.size<=1000000):mN Tryz.prog 9 ents (.string s):=
 ⟨Fw,Iz hs,fun e he=>by
  obtain ⟨t,n,h1,rfl⟩:=h e he;exact Iz h1⟩
theorem hZ.put {ents ents':List (Value × Value)} (h:hZ ents) {s:ByteArray} {n:Int} (hs:s.size<=1000000) (hp:Az ents (.string s) (.int .i64 n) ents'):hZ ents':=by
 rcases hp with ⟨j,o,h1,rfl⟩|⟨_,rfl⟩
 .intro e he;rcases J1 he with h2|h2
  .exact h e h2
  .exact ⟨s,n,hs,h2⟩
 .intro e he;rcases Ja.1 he with h2|h2
  .exact h e h2
  .exact ⟨s,n,hs,Jg.1 h2⟩
theorem hZ.look2 {ents:List (Value × Value)} (h:hZ ents) {s:ByteArray} {r:Option Value} (hr:tN ents (.string s) r):r=none \/ ∃ n:Int,r=some (.int .i64 n):=by
 cases r with
 | none=>exact .inl rfl
 | some v=>
  obtain ⟨t,n,_,h2⟩:=h _ hr;simp only [Prod.mk.injEq] at h2;exact .inr ⟨n,by rw [h2.2]⟩
abbrev gl (l:List (List Mv)):List (List AV):=l.map fun r=>[nV r]
abbrev li (l:List (List Int)):List (List AV):=l.map fun r=>[sI r]
abbrev wN:AV:=.agg [.c (.slice none 0 0),.c (.slice none 0 0),.c (.slice none 0 0)]
def pY (m:aF) (R:bS):Prop:=R=⟨.tup [wN,eB false],[],0⟩ \/ ∃ (L:List St) (M:List (List Mv)) (N:List (List Int)),((∀ s ∈ L,GS m s) /\ L.length<=100) /\ R=⟨.tup [.agg [.sl 5 (L.map cJ),.sl 1 (gl M),.sl 1 (li N)],eB true],[],0⟩
def Iv (m:aF) (R:bS):Prop:=R=⟨.tup [wN,eB false],[],0⟩ \/ ∃ (L:List St) (M:List (List Mv)) (N:List (List Int)),((∀ s ∈ L,GS m s) /\ L.length<=100) /\ R=⟨.tup [.agg [.osl 0,.osl 1,.osl 2],eB true],[(0,some (.row 47 5 (L.map cJ))),(1,some (.row 77 1 (gl M))),(2,some (.row 45 1 (li N)))],3⟩
theorem Ht {P:Program} {f:FuncId} {args:List AV} {m:aF} (h:bh P f args (Iv m)):bh P f args (pY m):=
 ((((h.frz 0).frz 1).frz 2).drop).mono fun R hR=>by
  obtain ⟨R1,⟨R2,⟨R3,⟨R4,h3,rfl⟩,rfl⟩,rfl⟩,h4⟩:=hR;rcases h3 with rfl|⟨L,M,N,h5,rfl⟩
  .rcases h4 with ⟨_,rfl⟩ | ⟨h4,_⟩
   .left;simp [bS.frz,ag.get]
   .exact absurd (by simp [bS.frz,ag.get,AV.lt,AV.ltL]) h4
  .rcases h4 with ⟨_,rfl⟩ | ⟨h4,_⟩
   .right;exact ⟨L,M,N,h5,by simp [bS.frz,ag.gc,AV.frz,AV.frzL,bP,aE.frz]⟩
   .exact absurd (by simp [bS.frz,ag.gc,AV.frz,AV.frzL,bP,aE.frz,AV.lt,AV.ltL]) h4
theorem uT (m:aF) (c:List Int) (hm:iJ m) (hck:mn m) (hcl:c.length<=100000):bh Tryz.prog 8 [.agg (am m),sI c,eI 100] (pY m):=by
 refine Ht ?_;refine ay ae Tryz.func8 rfl (by decide) Tryz.ntmps8 Tryz.results8 rfl ?_;have hf:=hm.fit;have hC:=mX m hf hm.pars;have hg0:=yT hm hck;have hBe:=yb m hf hm.pars;have hTx:=fun s (h:GS m s)=>xE s (by have:=h.good.vals;omega) (by have:=h.good.did;omega) (by have:=h.good.cnt;omega) h.good.nums h.good.ok.opn h.good.ok.don h.good.ok.did (h.cnt hck)
 have hTl:∀ s,GS m s -> (ky (gO s)).size<=1000000:=fun s h=>by
  rw [mH];have:=ur h.good (h.cnt hck);omega
 obtain ⟨s0,hs0⟩:∃ s,s=fE m:=⟨_,rfl⟩;rw [<- hs0] at hg0 hBe
 repeat' first|refine go ?_|decide|refine sp ?_ ?_<;>intro _
 refine dV hC fun R hR=>?_;obtain ⟨b,rfl,-⟩:=hR;refine ⟨ro,?_⟩;have hv1:∀ k,(val (.bool b)).r.shift k=eB b:=fun _=>rfl;have hv2:∀ k,ag.shift k (val (.bool b)).tab=[]:=fun _=>rfl;have hv3:(val (.bool b)).n=0:=rfl
 cases b with
 | false=>
  repeat' first|refine gf (kf hv1 (kf hv2 hv3)) ?_|decide|refine sp ?_ ?_<;>intro _
  all_goals exact ⟨_,.inl rfl,⟨fun id o h=>(by cases h),by simp [AV.lt,AV.ltL]⟩,aB (by simp [AV.ren,AV.renL])⟩
 | true=>
  have hT0:=hTx s0 hg0;have hTl0:=hTl s0 hg0;obtain ⟨t0,ht0⟩:∃ t,t=ky (gO s0):=⟨_,rfl⟩;rw [<- ht0] at hT0 hTl0
  repeat' first|refine ge (kf hv1 (kf hv2 hv3)) ?_|decide|refine sp ?_ ?_<;>intro _
  refine dJ hBe (ro) ?_
  repeat' first|refine go ?_|decide|refine sp ?_ ?_<;>intro _
  refine ak hT0 ?_
  repeat' first|refine go ?_|decide|refine sp ?_ ?_<;>intro _
  refine ⟨hZ.fit (fun e h=>by cases h) hTl0,fun ents he=>?_⟩;have hE0:hZ ents:=hZ.put (fun e h=>by cases h) hTl0 he
  repeat' first|refine go ?_|decide|refine sp ?_ ?_<;>intro _
  refine ⟨rfl,?_⟩;have e0:([s0]:List St).map cJ=[cJ s0]:=rfl;refine af (fun st=>∃ (i:Nat) (L:List St) (M:List (List Mv)) (N:List (List Int)) (ents:List (Value × Value)),(i<=L.length /\ (∀ s ∈ L,GS m s) /\ (L.length<=100 \/ (i=0 /\ L.length=1)) /\ M.length=i /\ N.length=i /\ hZ ents) /\ st=⟨136,[(1,sI c),(2,eI 100),(3,.op 0 0 0),(6,.op 1 0 0),(8,.op 2 0 0),(9,.osl 3),(11,eI (i:Int))],[(0,some (.box 32 (am m))),(1,some (.box 41 [.c (.slice none 0 0),.c (.slice none 0 0),.c (.slice none 0 0)])),(2,some (.box 41 [.osl 4,.osl 5,.osl 6])),(3,some (.map ents)),(4,some (.row 47 5 (L.map cJ))),(5,some (.row 77 1 (gl M))),(6,some (.row 45 1 (li N)))],7⟩) (fun st=>102 - aw st 11) ?_ ?_
  .refine ⟨_,((eE (t:=41) (cells:=[.osl 6,.c (.slice none 0 0),.c (.slice none 0 0)]) 2 1 77 1 ?h1 rfl).trans (eE (t:=41) (cells:=[.osl 6,.osl 7,.c (.slice none 0 0)]) 2 2 45 1 ?h2 rfl)).trans ?h3,0,[s0],[],[],ents,⟨by simp,fun s hs=>by rw [Jg.1 hs];exact hg0,.inr ⟨rfl,rfl⟩,rfl,rfl,hE0⟩,rfl⟩
   case h1=>simp [ag.gc]
   case h2=>simp [ag.gc]
   case h3=>exact (wS [0,1,2,3,6,7,8] (kf @Kt (kf @KM e0)))
  rintro _ ⟨i,L,M,N,ents,⟨hi,hL,hLl,hMl,hNl,hE⟩,rfl⟩;have hL1:L.length<=100:=by omega
  by_cases hlt:i<L.length
  .obtain ⟨s,hs⟩:∃ s,s=L[i]:=⟨_,rfl⟩;have hgs:=hL s (hs ▸ IZ hlt);have hrs:(L.map cJ)[i]?.getD []=cJ s:=by rw [hs];simp [hlt]
   repeat' first|refine ge (kf @hlt @hrs) ?_|decide|refine sp ?_ ?_<;>intro _
   refine bk [] [0,1,2,3,4,5,6] (.exec 7 (.take 8 (.take 9 (.take 10 (.take 11 (.exec 12 (.exec 13 (.exec 14 .done)))))))) (by kernel_rfl) (by simp [ag.gc]) ?_
   repeat' first|refine ge (kf @hlt @hrs) ?_|decide|refine sp ?_ ?_<;>intro _
   refine dV (xD m c s hf hck hgs.good hcl) fun R hR=>?_;obtain ⟨a,b,ok,hab,rfl⟩:=hR;refine ⟨ro,?_⟩;have hw1:∀ k,(⟨.tup [eI a,eI b,eB ok],[],0⟩:bS).r.shift k=.tup [eI a,eI b,eB ok]:=fun _=>rfl;have hw2:∀ k,ag.shift k (⟨.tup [eI a,eI b,eB ok],[],0⟩:bS).tab=[]:=fun _=>rfl;have hw3:(⟨.tup [eI a,eI b,eB ok],[],0⟩:bS).n=0:=rfl
   cases ok with
   | false=>
    repeat' first|refine gf (kf hw1 (kf hw2 hw3)) ?_|decide|refine sp ?_ ?_<;>intro _
    all_goals exact ⟨_,.inl rfl,⟨fun id o h=>(by cases h),by simp [AV.lt,AV.ltL]⟩,aB (by simp [AV.ren,AV.renL])⟩
   | true=>
    obtain ⟨a1,b1,ab,w152⟩:=hab rfl
    repeat' first|refine ge (kf hw1 (kf hw2 (kf hw3 (kf @hlt @hrs)))) ?_|decide|refine sp ?_ ?_<;>intro _
    refine bk [] [0,1,2,3,4,5,6,7] (.exec 8 (.exec 9 .done)) (by kernel_rfl) (by simp [ag.gc]) ?_
    repeat' first|refine ge (kf @hlt @hrs) ?_|decide|refine sp ?_ ?_<;>intro _
    refine dV (wM m s a b hm hgs.good hck a1 b1 ab w152) fun R hR=>?_;obtain ⟨V,⟨hV,hVl⟩,rfl⟩:=hR;refine ⟨ro,?_⟩;have hu1:∀ k,(⟨nV V,[],0⟩:bS).r.shift k=nV V:=fun _=>rfl;have hu2:∀ k,ag.shift k (⟨nV V,[],0⟩:bS).tab=[]:=fun _=>rfl;have hu3:(⟨nV V,[],0⟩:bS).n=0:=rfl
    repeat' first|refine ge (kf hu1 (kf hu2 (kf hu3 (kf @hlt @hrs)))) ?_|decide|refine sp ?_ ?_<;>intro _
    refine af (fun st=>∃ (j:Nat) (L':List St) (r:List Int) (ents':List (Value × Value)),(j<=V.length /\ L <+: L' /\ L'.length<=L.length+j /\ (∀ s ∈ L',GS m s) /\ r.length=j /\ hZ ents') /\ st=⟨136,[(1,sI c),(2,eI 100),(3,.op 0 0 0),(6,.op 1 0 0),(8,.op 2 0 0),(9,.osl 3),(11,eI (i:Int)),(15,nV V),(16,.osl 7),(17,eI (j:Int))],[(0,some (.box 32 (am m))),(1,some (.box 41 [.c (.slice none 0 0),.c (.slice none 0 0),.c (.slice none 0 0)])),(2,some (.box 41 [.osl 4,.osl 5,.osl 6])),(3,some (.map ents')),(4,some (.row 47 5 (L'.map cJ))),(5,some (.row 77 1 (gl M))),(6,some (.row 45 1 (li N))),(7,some (.row 3 1 (tI r)))],8⟩) (fun st=>V.length - aw st 17) ⟨_,((aW 16 3 1 (by simp only [f9,ai.get,a7,ai.put,↓reduceIte,reduceCtorEq,Nat.reduceLT,Nat.reduceEqDiff,Nat.reduceAdd,Nat.reduceLeDiff,eq_self,implies_true,Jo])).trans (wS [0,1,2,3,4,5,6,7] trivial)),0,L,[],ents,⟨IY _,List.prefix_rfl,I6 _,hL,rfl,hE⟩,rfl⟩ ?_;rintro _ ⟨j,L',r,ents',⟨hj,hpre,hL'l,hL',hrl,hE'⟩,rfl⟩;have hLL:=hpre.length_le;by_cases hlj:j<V.length
    .obtain ⟨v,hv⟩:∃ v,v=V[j]:=⟨_,rfl⟩;have hrv:(V.map oU)[j]?.getD []=oU v:=by rw [hv];simp [hlj]
     have hvP:=hV v (hv ▸ IZ hlj);have hli:i<L'.length:=(by omega)
     have hrs':(L'.map cJ)[i]?.getD []=cJ s:=by
      obtain ⟨z,rfl⟩:=hpre;rw [Jl,JD (by simpa using hlt)];exact hrs
     have hDo:=He m s v hf hgs.good.fit (by have:=hvP.four;omega) hm.pars hm.roles hgs.good.ok hm.times;have hgt:=Ie hck.chk.circle hgs hvP a1 b1;obtain ⟨q,hq⟩:∃ q,q=(oD m s v).2:=⟨_,rfl⟩;obtain ⟨t,ht⟩:∃ t,t=(oD m s v).1:=⟨_,rfl⟩;rw [<- ht] at hgt;rw [<- hq,<- ht] at hDo;have hTt:=hTx t hgt;have hTtl:=hTl t hgt;obtain ⟨tx,htx⟩:∃ x,x=ky (gO t):=⟨_,rfl⟩;rw [<- htx] at hTt hTtl
     repeat' first|refine ge (kf @hlj (kf @hli (kf @hrs' @hrv))) ?_|decide|refine sp ?_ ?_<;>intro _
     refine bk [] [0,1,2,3,4,5,6,7,8,9] (.two 10 (.take 11 (.take 12 (.take 13 (.exec 14 (.exec 15 (.exec 16 .done)))))) 14 (.exec 10 (.take 11 (.take 12 (.take 13 (.exec 15 (.exec 16 .done))))))) (by kernel_rfl) (by simp [ag.gc]) ?_;have et2:(L' ++ [t]).map cJ=L'.map cJ ++ [cJ t]:=(by simp);have etR:∀ x:Int,tI (r ++ [x])=tI r ++ [[eI x]]:=fun x=>by simp
     have hLn:∀ s ∈ L' ++ [t],GS m s:=fun s hs=>by
      rcases Ja.1 hs with h|h
      .exact hL' s h
      .rw [Jg.1 h];exact hgt
     repeat' first|refine gf (kf @hlj (kf @hli (kf @hrs' @hrv))) ?_|decide|refine sp ?_ ?_<;>intro _|refine cA hDo ?_|refine cA hTt ?_|(with_reducible apply And.intro)
     all_goals first
      | exact hE'.fit hTtl
      | skip
     all_goals
      rintro q1 hq1;rcases hE'.look2 hq1 with rfl|⟨n1,rfl⟩
      .have q0:((0:Int) == 0)=true:=rfl
       repeat' first|refine gf q0 ?_|decide|refine sp ?_ ?_<;>intro _|(with_reducible apply And.intro)
       all_goals first
        | rfl
        | omega
        | exact hE'.fit hTtl
        | skip
       rintro E2 hE2;have hEE:=hE'.put hTtl hE2
       repeat' first|refine gq ?_|decide|refine sp ?_ ?_<;>intro _|(with_reducible apply And.intro)
       all_goals first
        | rfl
        | omega
        | exact hEE.fit hTtl
        | skip
       all_goals
        rintro q2 hq2;rcases hEE.look2 hq2 with rfl|⟨n2,rfl⟩
       .repeat' first|refine gq ?_|decide|refine sp ?_ ?_<;>intro _|(with_reducible apply And.intro)
        all_goals first
         | rfl
         | omega
         | exact rI (wS [0,1,2,3,10,5,6,12] (kf et2 @etR)) ⟨j+1,L' ++ [t],r ++ [IntKind.i64.wrap (0 - 1)],E2,⟨by omega,hpre.trans (List.prefix_append _ _),by rw [I0,Jr];omega,hLn,by rw [I0,Jr];omega,hEE⟩,rfl⟩
       .repeat' first|refine gq ?_|decide|refine sp ?_ ?_<;>intro _|(with_reducible apply And.intro)
        all_goals first
         | rfl
         | omega
         | exact rI (wS [0,1,2,3,10,5,6,12] (kf et2 @etR)) ⟨j+1,L' ++ [t],r ++ [IntKind.i64.wrap (n2 - 1)],E2,⟨by omega,hpre.trans (List.prefix_append _ _),by rw [I0,Jr];omega,hLn,by rw [I0,Jr];omega,hEE⟩,rfl⟩
      .by_cases hn0:n1=0
       .subst hn0;have q0:((0:Int) == 0)=true:=rfl
        repeat' first|refine gf q0 ?_|decide|refine sp ?_ ?_<;>intro _|(with_reducible apply And.intro)
        all_goals first
         | rfl
         | omega
         | exact hE'.fit hTtl
         | skip
        rintro E2 hE2;have hEE:=hE'.put hTtl hE2
        repeat' first|refine gq ?_|decide|refine sp ?_ ?_<;>intro _|(with_reducible apply And.intro)
        all_goals first
         | rfl
         | omega
         | exact hEE.fit hTtl
         | skip
        all_goals
         rintro q2 hq2;rcases hEE.look2 hq2 with rfl|⟨n2,rfl⟩
        .repeat' first|refine gq ?_|decide|refine sp ?_ ?_<;>intro _|(with_reducible apply And.intro)
         all_goals first
          | rfl
          | omega
          | exact rI (wS [0,1,2,3,10,5,6,12] (kf et2 @etR)) ⟨j+1,L' ++ [t],r ++ [IntKind.i64.wrap (0 - 1)],E2,⟨by omega,hpre.trans (List.prefix_append _ _),by rw [I0,Jr];omega,hLn,by rw [I0,Jr];omega,hEE⟩,rfl⟩
        .repeat' first|refine gq ?_|decide|refine sp ?_ ?_<;>intro _|(with_reducible apply And.intro)
         all_goals first
          | rfl
          | omega
          | exact rI (wS [0,1,2,3,10,5,6,12] (kf et2 @etR)) ⟨j+1,L' ++ [t],r ++ [IntKind.i64.wrap (n2 - 1)],E2,⟨by omega,hpre.trans (List.prefix_append _ _),by rw [I0,Jr];omega,hLn,by rw [I0,Jr];omega,hEE⟩,rfl⟩
       .have q0:(n1 == 0)=false:=Jz.2 hn0
        repeat' first|refine gf q0 ?_|decide|refine sp ?_ ?_<;>intro _
        have hEE:=hE'
        repeat' first|refine gq ?_|decide|refine sp ?_ ?_<;>intro _|(with_reducible apply And.intro)
        all_goals first
         | rfl
         | omega
         | exact hEE.fit hTtl
         | skip
        all_goals
         rintro q2 hq2;rcases hEE.look2 hq2 with rfl|⟨n2,rfl⟩
        .repeat' first|refine gq ?_|decide|refine sp ?_ ?_<;>intro _|(with_reducible apply And.intro)
         all_goals first
          | rfl
          | omega
          | exact rI (wS [0,1,2,3,4,5,6,10] (kf et2 @etR)) ⟨j+1,L',r ++ [IntKind.i64.wrap (0 - 1)],ents',⟨by omega,hpre,by omega,hL',by rw [I0,Jr];omega,hEE⟩,rfl⟩
        .repeat' first|refine gq ?_|decide|refine sp ?_ ?_<;>intro _|(with_reducible apply And.intro)
         all_goals first
          | rfl
          | omega
          | exact rI (wS [0,1,2,3,4,5,6,10] (kf et2 @etR)) ⟨j+1,L',r ++ [IntKind.i64.wrap (n2 - 1)],ents',⟨by omega,hpre,by omega,hL',by rw [I0,Jr];omega,hEE⟩,rfl⟩
    .obtain rfl:j=V.length:=by omega
     have hML:M.length<=100:=(by omega);have hNL:N.length<=100:=(by omega);have etM:gl (M ++ [V])=gl M ++ [[nV V]]:=(by simp);have etN:li (N ++ [r])=li N ++ [[sI r]]:=(by simp);by_cases h100:L'.length<=100
     .have hd1:decide (100<(L'.length:Int))=false:=I3 (by omega)
      repeat' first|refine gf (kf @hlj hd1) ?_|decide|refine sp ?_ ?_<;>intro _|(with_reducible apply And.intro)
      all_goals first
       | rfl
       | omega
       | exact ⟨_,.inl rfl,⟨fun id o h=>(by cases h),by simp [AV.lt,AV.ltL]⟩,aB (by simp [AV.ren,AV.renL])⟩
       | exact rI (wS [0,1,2,3,4,9,11] (kf @etM (kf @etN (kf @Kt @KM)))) ⟨i+1,L',M ++ [V],N ++ [r],ents',⟨by omega,hL',.inl h100,by rw [I0,Jr];omega,by rw [I0,Jr];omega,hE'⟩,rfl⟩
     .have hd1:decide (100<(L'.length:Int))=true:=Jc (by omega)
      repeat' first|refine gf (kf @hlj hd1) ?_|decide|refine sp ?_ ?_<;>intro _|(with_reducible apply And.intro)
      all_goals exact ⟨_,.inl rfl,⟨fun id o h=>(by cases h),by simp [AV.lt,AV.ltL]⟩,aB (by simp [AV.ren,AV.renL])⟩
  .have hiL:i=L.length:=(by omega);subst hiL
   repeat' first|refine ge @hlt ?_|decide|refine sp ?_ ?_<;>intro _
   all_goals exact ⟨_,.inr ⟨L,M,N,⟨hL,hL1⟩,rfl⟩,qL (by simp [cd,aE.lt,AV.ltL,AV.lt]) (by simp [AV.lt,AV.ltL]),⟨[4,5,6],by decide,rfl,by simp [du,ag.gc]⟩⟩
end
end
section
section
theorem Bj {u:Option (Nat × List Nat)} {P:Program} {st:ai} {g:FuncId} {args caps:List AV} {K:AV -> ai -> Prop} {Post:bS -> Prop} (ht:aI caps) (h:bh P g (args.map (dk st.tab) ++ caps) Post) (hk:∀ R,Post R -> (oC (args ++ caps) \/ (R.r.plain /\ R.tab.plain)) /\ K (R.r.shift st.next) { st with tab:=R.tab.shift st.next ++ st.tab,next:=st.next+R.n }):dr u P st g (args ++ caps) K:=
 dV (by rw [Jl,jM ht];exact h) hk
theorem Gu (m:aF) (hm:iJ m) (hck:mn m) (a b u r f:Int) {k:Nat} (hk:k<11):∃ (n:Nat) (g:FuncId) (cs:List AV),(rA m a b u r (fX m m.guards.length) f)[k]?.getD []=[eI (n:Int),.fn g cs] /\ n<=14 /\ aI cs /\ ∀ i:Nat,i<n -> bh Tryz.prog g ([eI (i:Int)] ++ cs) (ib m (k+1) i):=by
 obtain ⟨hgl,hml,hsl,hel,hal,hul,hrl,hsol,hol,hil⟩:=id hm.fit.sizes
 have hin:∀ {n:Int} {l:Nat},l<=14 -> b7 n l=true -> aA n:=fun hl h=>by
  unfold b7 at h;simp only [I2,Je] at h;unfold aA;omega
 rcases (by omega:k=0 \/ k=1 \/ k=2 \/ k=3 \/ k=4 \/ k=5 \/ k=6 \/ k=7 \/ k=8 \/ k=9 \/ k=10) with rfl|rfl|rfl|rfl|rfl|rfl|rfl|rfl|rfl|rfl|rfl
 .exact ⟨_,_,_,rfl,by omega,by simp [aI,aQ],fun i _=>HO m a i i⟩
 .exact ⟨_,_,_,rfl,by omega,by simp [aI,aQ],fun i _=>Ig m a b i i⟩
 .exact ⟨_,_,_,rfl,by omega,by simp [aI,aQ],fun i _=>HI m u i i⟩
 .exact ⟨_,_,_,rfl,by omega,by simp [aI,aQ],fun i _=>HB m r i i⟩
 .exact ⟨_,_,_,rfl,by omega,by simp [aI,aQ],fun i hi=>HQ m i hi⟩
 .exact ⟨_,_,_,rfl,by omega,by simp [aI,aQ],fun i _=>H5 m f i i⟩
 .exact ⟨_,_,_,rfl,by omega,by simp [aI,aQ],fun i hi=>Im m hm i hi (hin (by omega) (hck.named.events i hi).2.1)⟩
 .exact ⟨_,_,_,rfl,by omega,by simp [aI,aQ],fun i hi=>HW m hm i hi (hin (by omega) (hck.named.miles i hi).1)⟩
 .exact ⟨_,_,_,rfl,by omega,by simp [aI,aQ],fun i hi=>H0 m hm.fit i hi⟩
 .exact ⟨_,_,_,rfl,by omega,by simp [aI,aQ],fun i hi=>Hi m hm.fit i hi⟩
 .exact ⟨_,_,_,rfl,by omega,by simp [aI,aQ],fun i hi=>FA m hck.named i hi⟩
abbrev tL (p:Nat × Nat):List AV:=[eI (p.1:Int),eI (p.2:Int)]
abbrev np (m:aF) (L:List (Nat × Nat)):Prop:=∀ p ∈ L,wi m p.1 p.2
theorem BP (m:aF) (hm:iJ m) (hck:mn m) (hs:∀ e ∈ m.events,e.sets.length<=1000000):bh Tryz.prog 7 [.agg (am m)] fun R=>∃ L:List (Nat × Nat),(np m L /\ L.length<=154) /\ R=cu 49 2 (L.map tL):=by
 have hf:=hm.fit;have hC:=yn m hf hm.cond hm.pars hck;refine gQ Tryz.func7 rfl (by decide) Tryz.ntmps7 Tryz.results7 rfl ?_;refine b5 (fun st=>st=⟨38,[(1,.op 0 0 0)],[(0,some (.box 32 (am m)))],1⟩) (cy ae ?_) ?_
 .repeat' first|refine gq ?_|decide|refine sp ?_ ?_<;>intro _
  all_goals exact bG wC rfl
 rintro _ rfl;refine b5 (fun st=>st=⟨38,[(1,.op 0 0 0),(3,.c (.slice none 0 0))],[(0,some (.box 32 (am m)))],1⟩) (cy ae ?_) ?_
 .repeat' first|refine gq ?_|decide|refine sp ?_ ?_<;>intro _
  all_goals exact bG wC rfl
 rintro _ rfl;refine b5 (fun st=>st=⟨38,[(1,.op 0 0 0),(3,.c (.slice none 0 0))],[(0,some (.box 32 (am m)))],1⟩) (cy ae ?_) ?_
 .repeat' first|refine gq ?_|decide|refine sp ?_ ?_<;>intro _|refine cA hC ?_|fail
  all_goals exact bG wC rfl
 rintro _ rfl;refine b5 (fun st=>∃ L:List (Nat × Nat),(np m L /\ L.length<=154) /\ st=⟨38,[(3,.osl 0)],[(0,some (.row 49 2 (L.map tL)))],1⟩) (cy ae ?_) ?_
 .repeat' first|refine go ?_|decide|refine sp ?_ ?_<;>intro _
  refine dV (y8 m hf hs) fun R hR=>?_;obtain ⟨a,b,u,r,rfl⟩:=hR;refine ⟨ro,?_⟩;have hrow:=fun {k:Nat} (hk:k<11)=>Gu m hm hck a b u r (uB m) hk;obtain ⟨Rw,hRw⟩:∃ Rw,Rw=rA m a b u r (fX m m.guards.length) (uB m):=⟨_,rfl⟩;have hRl:Rw.length=11:=by rw [hRw];rfl
  rw [<- hRw] at hrow ⊢;have hsh:∀ k,(cu 71 2 Rw).r.shift k=.osl (0+k):=fun _=>rfl;have hts:∀ k,ag.shift k (cu 71 2 Rw).tab=[(0+k,some (.row 71 2 Rw))]:=fun k=>by simp [cu,eJ,dD,aE.shift]
  have hn1:(cu 71 2 Rw).n=1:=rfl
  repeat' first|refine ge (kf @hsh (kf @hts (kf hn1 (kf @hRl @JM)))) ?_|decide|refine sp ?_ ?_<;>intro _
  refine af (fun st=>∃ (k:Nat) (L:List (Nat × Nat)),(k<=11 /\ np m L /\ L.length<=k * 14) /\ st=⟨38,[(3,.osl 0),(12,.sl 2 Rw),(13,eI 11),(14,eI (k:Int))],[(0,some (.row 49 2 (L.map tL)))],1⟩) (fun st=>11 - aw st 14) ?_ ?_
  .refine ⟨_,(sL _ 1).trans ?_,0,[],⟨by omega,(fun p h=>by cases h),by simp⟩,rfl⟩;simp [fo,eT,bP,ag.gc,aE.frz,AV.frz,AV.frzL];exact ((aW 3 49 2 (by simp only [f9,ai.get,a7,ai.put,↓reduceIte,reduceCtorEq,Nat.reduceLT,Nat.reduceEqDiff,Nat.reduceAdd,Nat.reduceLeDiff,eq_self,implies_true,Jo])).trans (wS [2] trivial))
  rintro _ ⟨k,L,⟨hk,hL,hLl⟩,rfl⟩;by_cases hlt:k<11
  .obtain ⟨n,g,cs,hr,hn,ht,hg⟩:=hrow hlt;have z0:decide ((k:Int)<11)=true:=Jc (by omega);have hkR:k<Rw.length:=(by omega);have w1:IntKind.i64.wrap ((k:Int)+1)=((k+1:Nat):Int):=ic (by omega);have hrn:∀ l,AV.renL l cs=cs:=fun l=>sw l ht;have hlc:∀ nx,AV.ltL nx cs=True:=fun nx=>eq_true (kX ht)
   repeat' first|refine ge (kf z0 (kf hr (kf @hkR (kf @hRl @hlt)))) ?_|decide|refine sp ?_ ?_<;>intro _
   refine af (fun st=>∃ (j:Nat) (Q:List (Nat × Nat)),(j<=n /\ np m Q /\ Q.length<=L.length+j) /\ st=⟨38,[(3,.osl 0),(4,eI (k:Int)),(5,.op 1 0 0),(12,.sl 2 Rw),(13,eI 11),(14,eI (k:Int)),(20,eI (n:Int)),(21,eI (j:Int))],[(0,some (.row 49 2 (Q.map tL))),(1,some (.box 71 [eI (n:Int),.fn g cs]))],2⟩) (fun st=>n - aw st 21) ⟨_,(wS [0,1] (kf @hrn @hlc)),0,L,⟨IY _,hL,by omega⟩,rfl⟩ ?_;rintro _ ⟨j,Q,⟨hj,hQ,hQl⟩,rfl⟩;by_cases hlj:j<n
   .have et:(Q ++ [(k+1,j)]).map tL=Q.map tL ++ [[eI ((k+1:Nat):Int),eI (j:Int)]]:=by simp
    repeat' first|refine ge @hlj ?_|decide|refine sp ?_ ?_<;>intro _
    refine Bj (args:=[_]) ht (hg j hlj) fun R hR=>?_;obtain ⟨bb,rfl,hbb⟩:=hR;refine ⟨.inr ⟨trivial,trivial⟩,?_⟩;have hv1:∀ k,(val (.bool bb)).r.shift k=eB bb:=fun _=>rfl;have hv2:∀ k,ag.shift k (val (.bool bb)).tab=[]:=fun _=>rfl;have hv3:(val (.bool bb)).n=0:=rfl
    cases bb with
    | true=>
     have hQn:np m (Q ++ [(k+1,j)]):=fun p hp=>by
      rcases Ja.1 hp with h|h
      .exact hQ p h
      .rw [Jg.1 h];exact hbb rfl
     repeat' first|refine gf (kf hv1 (kf hv2 (kf hv3 w1))) ?_|decide|refine sp ?_ ?_<;>intro _|(with_reducible apply And.intro)
     all_goals first
      | rfl
      | omega
      | exact rI (wS [3,1] (kf w1 (kf et (kf @hrn @hlc)))) ⟨j+1,Q ++ [(k+1,j)],⟨by omega,hQn,by rw [I0,Jr];omega⟩,rfl⟩
    | false=>
     repeat' first|refine gf (kf hv1 (kf hv2 hv3)) ?_|decide|refine sp ?_ ?_<;>intro _
     all_goals exact rI (wS [0,1] (kf @hrn @hlc)) ⟨j+1,Q,⟨by omega,hQ,by omega⟩,rfl⟩
   .obtain rfl:j=n:=by omega
    repeat' first|refine gf @hlj ?_|decide|refine sp ?_ ?_<;>intro _
    all_goals exact rI (wR [0]) ⟨k+1,Q,⟨by omega,hQ,by omega⟩,rfl⟩
  .obtain rfl:k=11:=by omega
   have z1:decide (((11:Nat):Int)<11)=false:=rfl
   repeat' first|refine gf z1 ?_|decide|refine sp ?_ ?_<;>intro _
   all_goals exact bG wC ⟨L,⟨hL,by omega⟩,rfl⟩
 rintro _ ⟨L,hL,rfl⟩;refine cy ae ?_
 repeat' first|refine gq ?_|decide|refine sp ?_ ?_<;>intro _
 all_goals exact kE rfl ⟨L,hL,rfl⟩
theorem zg {u:Option (Nat × List Nat)} {P:Program} {st:ai} {g:FuncId} {args:List AV} {K:AV -> ai -> Prop} {Post:bS -> Prop} (ids:List Nat) (hl:AV.ltL st.next args) (hu:∀ p,u=some p -> ∀ id ∈ ids,kB p.1 p.2 id) (h:bh P g ((eZ st ids args).map (dk (dt st ids).tab)) Post)
  (hk:∀ R,Post R -> (oC (eZ st ids args) \/ (R.r.plain /\ R.tab.plain)) /\ K (R.r.shift (dt st ids).next) { dt st ids with tab:=R.tab.shift (dt st ids).next ++ (dt st ids).tab,next:=(dt st ids).next+R.n }):dr u P st g args K:=
 .inr (.inr (.inr ⟨ids,hl,hu,_,h,hk⟩))
theorem u3 {m:aF} {s:St} (hm:iJ m) (hg:GS m s) {c i:Nat} (h:wi m c i):(c=5 -> aR s.opn (i:Int)=false) /\ (c=8 -> aR s.don (i:Int)=false) /\ (c=7 -> i<s.did.length /\ s.did.getD i 0=0):=by
 have hsl:=hm.fit.sizes.2.2.1;have hpl:=mV m;refine ⟨fun e=>?_,fun e=>?_,fun e=>?_⟩
 .obtain ⟨h1,h2⟩:=h.five e;refine JK.2 fun ho=>?_;have h3:=(wl m (i:=(i:Int)) ⟨by omega,by omega⟩).2 (hg.lint.opn i ⟨by omega,by omega⟩ ho);rw [h2] at h3;cases h3
 .obtain ⟨h1,h2⟩:=h.eight e;exact JK.2 fun ho=>h2 (hg.lint.don i h1 ho)
 .obtain ⟨h1,h2⟩:=h.seven e;refine ⟨by rw [hg.did];exact h1,Classical.byContradiction fun hne=>h2 (hg.lint.did i h1 hne)⟩
theorem sF (m:aF) (hc:nF m) (hp:∀ p ∈ m.stages,aA p.2) (hi:∀ x ∈ m.inits,aA x) (hr:∀ p ∈ m.roles,aA p.2) (ht:∀ e ∈ m.events,aA e.times) (hA:ap Tryz.prog 6 [] (val (.bool true))) :
    ap Tryz.prog 3 [.agg (am m)] (val (.bool true)):=by
  refine aa ae Tryz.func3 rfl (by decide) Tryz.ntmps3 Tryz.results3 rfl (aq _) ?_
  repeat' first|refine go ?_|decide|refine sp ?_ ?_<;>intro _
  refine iB (wT m) fun g hg=>?_
  cases g with
  | true=>(repeat' (first | refine gq ?_ | decide | refine sp ?_ ?_<;>intro _ | refine cA hA ?_|fail))
  | false=>
  have hf:=hg rfl
  repeat' first|refine go ?_|decide|refine sp ?_ ?_<;>intro _
  refine iB (mX m hf hp) fun g2 hg2=>?_
  cases g2 with
  | false=>(repeat' (first | refine gq ?_ | decide | refine sp ?_ ?_<;>intro _ | refine cA hA ?_|fail))
  | true=>
  have hF:=hg2 rfl;have hm:iJ m:=⟨hf,hc,hp,hi,hr,ht⟩;have hCs:=(xY m [] hf (by simp)).fits (args:=[.agg (am m),.c (.slice none 0 0)]) ⟨.one (.refl _),.one (.nil 7),trivial⟩
  repeat' first|refine go ?_|decide|refine sp ?_ ?_<;>intro _
  refine dV (BP m hm hF fun e he=>by have:=hf.events e he;omega) fun R hR=>?_;obtain ⟨L,⟨hL,hLl⟩,rfl⟩:=hR;refine ⟨ro,?_⟩;have hsh:∀ k,(cu 49 2 (L.map tL)).r.shift k=.osl (0+k):=fun _=>rfl;have hts:∀ k,ag.shift k (cu 49 2 (L.map tL)).tab=[(0+k,some (.row 49 2 (L.map tL)))]:=fun k=>by simp [cu,eJ,dD,aE.shift]
  have hn1:(cu 49 2 (L.map tL)).n=1:=rfl
  repeat' first|refine ge (kf @hsh (kf @hts (kf hn1 @JM))) ?_|decide|refine sp ?_ ?_<;>intro _
  refine uk (fun st'=>(∃ A B C:AV,st'=⟨102,[(3,.osl 0),(4,.op 1 0 0),(5,eB false)],[(0,some (.row 49 2 (L.map tL))),(1,some (.box 41 [A,B,C]))],2⟩) \/ ∃ (S:List St) (M:List (List Mv)) (N:List (List Int)),((∀ s ∈ S,GS m s) /\ S.length<=100) /\ st'=⟨102,[(3,.osl 0),(4,.op 1 0 0),(5,eB true)],[(0,some (.row 49 2 (L.map tL))),(1,some (.box 41 [.sl 5 (S.map cJ),.sl 1 (gl M),.sl 1 (li N)]))],2⟩) [] [0,1] (.two 2 (.two 3 (.take 4 (.take 5 (.take 6 (.exec 7 (.exec 8 (.exec 9 .done)))))) 7 (.exec 3 (.take 4 (.take 5 (.take 6 (.exec 8 (.exec 9 .done))))))) 7 (.exec 2 (.exec 3 (.take 4 (.take 5 (.take 6 (.exec 8 (.exec 9 .done)))))))) (by kernel_rfl) (by simp [ag.gc]) ?_ ?_
  . (repeat' (first|refine gq ?_|decide|refine sp ?_ ?_<;>intro _|(with_reducible apply And.intro)))
    all_goals
      refine dV hCs fun R hR=>?_;obtain ⟨c,rfl,hcl⟩:=hR;refine ⟨ro,?_⟩;have hs2:∀ k,(cu 2 1 (c.map fun n=>[eI n])).r.shift k=.osl (0+k):=fun _=>rfl;have ht2:∀ k,ag.shift k (cu 2 1 (c.map fun n=>[eI n])).tab=[(0+k,some (.row 2 1 (c.map fun n=>[eI n])))]:=fun k=>by simp [cu,eJ,dD,aE.shift]
      have hn2:(cu 2 1 (c.map fun n=>[eI n])).n=1:=rfl;have hSt:=uT m c hm hF (by omega)
      repeat' first|refine gf (kf hs2 (kf ht2 (kf hn2 @JM))) ?_|decide|refine sp ?_ ?_<;>intro _|(with_reducible apply And.intro)
      all_goals first
        | (refine zg (Post:=pY m) [2] (by simp [AV.ltL,AV.lt]) (by rintro p hp;cases hp;simp [kB]) (by simp -implicitDefEqProofs (maxSteps:=5000000) only [Bw,↓reduceIte,reduceCtorEq,Nat.reduceLT,Nat.reduceEqDiff,Nat.reduceAdd,Nat.reduceMul,Nat.reduceSub,Nat.reduceLeDiff,Nat.reduceBEq];exact hSt) fun R hR=>?_
           refine ⟨.inl ?_,?_⟩
           focus
             (simp -implicitDefEqProofs (maxSteps:=5000000) only [Bw,↓reduceIte,reduceCtorEq,Nat.reduceLT,Nat.reduceEqDiff,Nat.reduceAdd,Nat.reduceMul,Nat.reduceSub,Nat.reduceLeDiff,Nat.reduceBEq])
             simp only [oC,Cq,aI,aQ,and_self]
             done)
        | (refine zg (Post:=pY m) [3] (by simp [AV.ltL,AV.lt]) (by rintro p hp;cases hp;simp [kB]) (by simp -implicitDefEqProofs (maxSteps:=5000000) only [Bw,↓reduceIte,reduceCtorEq,Nat.reduceLT,Nat.reduceEqDiff,Nat.reduceAdd,Nat.reduceMul,Nat.reduceSub,Nat.reduceLeDiff,Nat.reduceBEq];exact hSt) fun R hR=>?_
           refine ⟨.inl ?_,?_⟩
           focus
             (simp -implicitDefEqProofs (maxSteps:=5000000) only [Bw,↓reduceIte,reduceCtorEq,Nat.reduceLT,Nat.reduceEqDiff,Nat.reduceAdd,Nat.reduceMul,Nat.reduceSub,Nat.reduceLeDiff,Nat.reduceBEq])
             simp only [oC,Cq,aI,aQ,and_self]
             done)
        | fail
      all_goals
        rcases hR with rfl|⟨S,M,N,hS,rfl⟩
        . have hw1:∀ k,(⟨.tup [wN,eB false],[],0⟩:bS).r.shift k=.tup [wN,eB false]:=fun _=>rfl;have hw2:∀ k,ag.shift k (⟨.tup [wN,eB false],[],0⟩:bS).tab=[]:=fun _=>rfl;have hw3:(⟨.tup [wN,eB false],[],0⟩:bS).n=0:=rfl
          repeat' first|refine gf (kf hw1 (kf hw2 (kf hw3 @dD))) ?_|decide|refine sp ?_ ?_<;>intro _|(with_reducible apply And.intro)
          all_goals first
            | exact bG (wR [1,2]) (.inl ⟨.c (.slice none 0 0),.c (.slice none 0 0),.c (.slice none 0 0),rfl⟩)
            | exact bG (wR [1,3]) (.inl ⟨.c (.slice none 0 0),.c (.slice none 0 0),.c (.slice none 0 0),rfl⟩)
        . have hw1:∀ k,(⟨.tup [.agg [.sl 5 (S.map cJ),.sl 1 (gl M),.sl 1 (li N)],eB true],[],0⟩:bS).r.shift k=.tup [.agg [.sl 5 (S.map cJ),.sl 1 (gl M),.sl 1 (li N)],eB true]:=fun _=>rfl;have hw2:∀ k,ag.shift k (⟨.tup [.agg [.sl 5 (S.map cJ),.sl 1 (gl M),.sl 1 (li N)],eB true],[],0⟩:bS).tab=[]:=fun _=>rfl;have hw3:(⟨.tup [.agg [.sl 5 (S.map cJ),.sl 1 (gl M),.sl 1 (li N)],eB true],[],0⟩:bS).n=0:=rfl
          repeat' first|refine gf (kf hw1 (kf hw2 (kf hw3 @dD))) ?_|decide|refine sp ?_ ?_<;>intro _|(with_reducible apply And.intro)
          all_goals first
            | exact bG (wR [1,2]) (.inr ⟨S,M,N,hS,rfl⟩)
            | exact bG (wR [1,3]) (.inr ⟨S,M,N,hS,rfl⟩)
  . rintro _ (⟨A,B,C,rfl⟩ | ⟨S,M,N,⟨hS,hSl⟩,rfl⟩)
    . (repeat' (first|refine gq ?_|decide|refine sp ?_ ?_<;>intro _|refine cA hA ?_|fail))
    . (repeat' (first|refine go ?_|decide|refine sp ?_ ?_<;>intro _))
      refine af (fun st=>∃ i:Nat,i<=S.length /\ st=⟨102,[(3,.osl 0),(4,.op 1 0 0),(6,eI (i:Int))],[(0,some (.row 49 2 (L.map tL))),(1,some (.box 41 [.sl 5 (S.map cJ),.sl 1 (gl M),.sl 1 (li N)]))],2⟩) (fun st=>S.length - aw st 6) ⟨_,(wR [0,1]),0,IY _,rfl⟩ ?_;rintro _ ⟨i,hi,rfl⟩;by_cases hlt:i<S.length
      . obtain ⟨s,hs⟩:∃ s,s=S[i]:=⟨_,rfl⟩;have hgs:=hS s (hs ▸ IZ hlt);have hrs:(S.map cJ)[i]?.getD []=cJ s:=by rw [hs];simp [hlt]
        repeat' first|refine ge (kf @hlt @hrs) ?_|decide|refine sp ?_ ?_<;>intro _
        refine af (fun st=>∃ j:Nat,j<=L.length /\ st=⟨102,[(3,.osl 0),(4,.op 1 0 0),(6,eI (i:Int)),(7,.op 2 0 0),(8,eI (j:Int))],[(0,some (.row 49 2 (L.map tL))),(1,some (.box 41 [.sl 5 (S.map cJ),.sl 1 (gl M),.sl 1 (li N)])),(2,some (.box 47 (cJ s)))],3⟩) (fun st=>L.length - aw st 8) ⟨_,(wR [0,1,2]),0,IY _,rfl⟩ ?_;rintro _ ⟨j,hj,rfl⟩;by_cases hlj:j<L.length
        . obtain ⟨x,hx⟩:∃ x,x=L[j]:=⟨_,rfl⟩;have hrx:(L.map tL)[j]?.getD []=tL x:=by rw [hx];simp [hlj]
          obtain ⟨f5,f8,f7⟩:=u3 hm hgs (hL x (hx ▸ IZ hlj));obtain ⟨cc,n⟩:=x;simp only at f5 f8 f7;have ho:=cY s.opn (n:Int) hgs.good.ok.opn;have hd:=cY s.don (n:Int) hgs.good.ok.don;by_cases c5:cc=5
          . subst c5;have e5:(((5:Nat):Int) == 5)=true:=rfl;have e8:(((5:Nat):Int) == 8)=false:=rfl;have e7:(((5:Nat):Int) == 7)=false:=rfl;rw [f5 rfl] at ho
            repeat' first|refine gf (kf @hlj (kf @hrx (kf e5 (kf e8 e7)))) ?_|decide|refine sp ?_ ?_<;>intro _|refine cA ho ?_|fail
            all_goals exact rI (wR [0,1,2]) ⟨j+1,by omega,rfl⟩
          . have e5:((cc:Int) == 5)=false:=Jz.2 (by omega);by_cases c8:cc=8
            . subst c8;have e8:(((8:Nat):Int) == 8)=true:=rfl;have e7:(((8:Nat):Int) == 7)=false:=rfl;rw [f8 rfl] at hd
              repeat' first|refine gf (kf @hlj (kf @hrx (kf e5 (kf e8 e7)))) ?_|decide|refine sp ?_ ?_<;>intro _|refine cA hd ?_|fail
              all_goals exact rI (wR [0,1,2]) ⟨j+1,by omega,rfl⟩
            . have e8:((cc:Int) == 8)=false:=Jz.2 (by omega);by_cases c7:cc=7
              . subst c7;have e7:(((7:Nat):Int) == 7)=true:=rfl;obtain ⟨g1,g2⟩:=f7 rfl
                have hrd:(s.did.map fun n=>[eI n])[n]?.getD []=[eI 0]:=by
                  have h3:s.did[n]=0:=(by simpa [g1] using g2);simp [g1,h3]
                have n0:decide ((n:Int)<0)=false:=I3 (by omega);have n1:decide ((s.did.length:Int)<=(n:Int))=false:=I3 (by omega);have n2:decide (s.did.length<=n)=false:=I3 (by omega);have n3:(s.did.length<=n)=False:=eq_false (by omega);have z0:((0:Int) != 0)=false:=(by decide)
                repeat' first|refine gf (kf @hlj (kf @hrx (kf e5 (kf e8 (kf e7 (kf g1 (kf @hrd (kf n0 (kf n1 (kf n2 (kf n3 z0))))))))))) ?_|decide|refine sp ?_ ?_<;>intro _
                all_goals exact rI (wR [0,1,2]) ⟨j+1,by omega,rfl⟩
              . have e7:((cc:Int) == 7)=false:=Jz.2 (by omega)
                repeat' first|refine gf (kf @hlj (kf @hrx (kf e5 (kf e8 e7)))) ?_|decide|refine sp ?_ ?_<;>intro _
                all_goals exact rI (wR [0,1,2]) ⟨j+1,by omega,rfl⟩
        . obtain rfl:j=L.length:=by omega
          repeat' first|refine gf @hlj ?_|decide|refine sp ?_ ?_<;>intro _
          all_goals exact rI (wR [0,1]) ⟨i+1,by omega,rfl⟩
      . obtain rfl:i=S.length:=by omega
        repeat' first|refine gf @hlt ?_|decide|refine sp ?_ ?_<;>intro _|refine cA hA ?_|fail
end
section
theorem aC {P:Program} {x:Code} {Q:Exit -> ai -> Prop} {st:ai} (h:bB P x (jz (nb (fun s=>s=st) (fun _=>0) 0) Q) st):wk P x Q st:=
 af (fun s=>s=st) (fun _=>0) ⟨st,dw.reflH st,rfl⟩ fun s e=>by
  subst e;exact h
def bz:aF:=⟨[],[],[],[],[(⟨#[115]⟩,-1)],[],[],[],[],[]⟩
theorem fk:decide (((0:Nat):Int)<((0:Nat):Int))=false:=rfl
theorem ff:decide ((0:Int)<((0:Nat):Int))=false:=rfl
theorem fm:decide ((0:Nat)<0)=false:=rfl
theorem uu:ap Tryz.prog 44 [.agg (am bz)] (val (.int .i64 0)):=by
 refine aa ae Tryz.func44 rfl (by decide) Tryz.ntmps44 Tryz.results44 rfl (aq _) ?_
 repeat' first|refine go ?_|simp only [bz]|decide|refine sp ?_ ?_<;>intro _
 refine aC ?_
 repeat' first|refine gf (kf @fk (kf @ff @fm)) ?_|decide|refine sp ?_ ?_<;>intro _
theorem BE:ap Tryz.prog 94 [.agg (am bz)] (val (.slice none 0 0)):=by
 refine aa ae Tryz.func94 rfl (by decide) Tryz.ntmps94 Tryz.results94 rfl (aq _) ?_
 repeat' first|refine go ?_|simp only [bz]|decide|refine sp ?_ ?_<;>intro _
 refine aC ?_
 repeat' first|refine ge (kf @fk (kf @ff @fm)) ?_|decide|refine sp ?_ ?_<;>intro _
 refine aC ?_
 repeat' first|refine gf (kf @fk (kf @ff @fm)) ?_|decide|refine sp ?_ ?_<;>intro _
theorem yH:ap Tryz.prog 92 [.c (.slice none 0 0)] (val (.int .i64 0)):=by
 refine aa ae Tryz.func92 rfl (by decide) Tryz.ntmps92 Tryz.results92 rfl (aq _) ?_
 repeat' first|refine go ?_|decide|refine sp ?_ ?_<;>intro _
 refine aC ?_
 repeat' first|refine gf (kf @fk (kf @ff @fm)) ?_|decide|refine sp ?_ ?_<;>intro _
theorem tk:ap Tryz.prog 108 [.c (.slice none 0 0)] (val (.slice none 0 0)):=by
 refine aa ae Tryz.func108 rfl (by decide) Tryz.ntmps108 Tryz.results108 rfl (aq _) ?_
 repeat' first|refine go ?_|decide|refine sp ?_ ?_<;>intro _
 refine aC ?_
 repeat' first|refine gf (kf @fk (kf @ff @fm)) ?_|decide|refine sp ?_ ?_<;>intro _
theorem tn:ap Tryz.prog 119 [.c (.slice none 0 0)] (val (.slice none 0 0)):=by
 refine aa ae Tryz.func119 rfl (by decide) Tryz.ntmps119 Tryz.results119 rfl (aq _) ?_;have q2:decide (((0:Nat):Int)<2)=true:=rfl
 repeat' first|refine gf q2 ?_|decide|refine sp ?_ ?_<;>intro _
theorem wX:ap Tryz.prog 45 [.agg (am bz)] (val (.int .i64 0)):=by
 refine aa ae Tryz.func45 rfl (by decide) Tryz.ntmps45 Tryz.results45 rfl (aq _) ?_
 repeat' first|refine go ?_|simp only [bz]|decide|refine sp ?_ ?_<;>intro _
 refine aC ?_
 repeat' first|refine ge (kf @fk (kf @ff @fm)) ?_|decide|refine sp ?_ ?_<;>intro _
 refine aC ?_
 repeat' first|refine ge (kf @fk (kf @ff @fm)) ?_|decide|refine sp ?_ ?_<;>intro _
 have hW:=jL 0 (-1);have eW:ba 0 (-1)=0:=rfl;rw [eW] at hW;refine af (fun st=>∃ k:Nat,k<=1 /\ st=⟨47,[(1,.op 0 0 0),(3,eI 0),(35,.sl 2 [[eS ⟨#[115]⟩,eI (-1)]]),(36,eI 1),(37,eI (k:Int))],[(0,some (.box 32 (am bz)))],1⟩) (fun st=>1 - aw st 37) ⟨_,(wE @bz.eq_1),0,by omega,rfl⟩ ?_;rintro _ ⟨k,hk,rfl⟩;rcases (by omega:k=0 \/ k=1) with rfl|rfl
 .have z0:decide (((0:Nat):Int)<1)=true:=rfl;have e0:([[eS ⟨#[115]⟩,eI (-1)]]:List (List AV))[Int.toNat ((0:Nat):Int)]?.getD []=[eS ⟨#[115]⟩,eI (-1)]:=rfl;have b0:(0:Int)<((1:Nat):Int):=by decide
  repeat' first|refine gf (kf z0 (kf e0 b0)) ?_|decide|refine sp ?_ ?_<;>intro _|refine cA hW ?_|fail
  all_goals exact rI (wR [0]) ⟨1,by omega,rfl⟩
 .have z1:decide (((1:Nat):Int)<1)=false:=rfl
  repeat' first|refine gf z1 ?_|decide|refine sp ?_ ?_<;>intro _
end
end
section
section
theorem GG:ap Tryz.prog 34 [.agg (am bz)] (val (.bool true)):=by
 refine aa ae Tryz.func34 rfl (by decide) Tryz.ntmps34 Tryz.results34 rfl (aq _) ?_;have q5:decide (((0:Nat):Int)<=5)=true:=rfl;have q4:decide (((0:Nat):Int)<=4)=true:=rfl;have q8:decide (((0:Nat):Int)<=8)=true:=rfl;have q81:decide (((1:Nat):Int)<=8)=true:=rfl;have q6:decide (((0:Nat):Int)<=6)=true:=rfl;have q12:decide (((0:Nat):Int)<=12)=true:=rfl;have q0:(((0:Nat):Int) == ((0:Nat):Int))=true:=rfl
 repeat' first|refine gq ?_|simp only [bz,q4,q5,q6,q8,q81,q12,q0]|decide|refine sp ?_ ?_<;>intro _
theorem Bi:ap Tryz.prog 36 [.sl 5 []] (val (.bool true)):=by
 refine aa ae Tryz.func36 rfl (by decide) Tryz.ntmps36 Tryz.results36 rfl (aq _) ?_
 repeat' first|refine go ?_|decide|refine sp ?_ ?_<;>intro _
 refine aC ?_;have q4:decide ((0:Int)<=4)=true:=rfl
 repeat' first|refine gf (kf @fk (kf @ff (kf @fm q4))) ?_|decide|refine sp ?_ ?_<;>intro _
theorem Ei:ap Tryz.prog 82 [.sl 1 [[eI (-1)]],eI 0] ⟨.tup [eI 0,eB false],[],0⟩:=by
 have hok:(⟨.tup [eI 0,eB false],[],0⟩:bS).Ok:=⟨fun id o h=>(by cases h),⟨trivial,trivial,trivial⟩⟩;refine aa ae Tryz.func82 rfl (by decide) Tryz.ntmps82 Tryz.results82 rfl (hok) ?_;have e0:([[eI (-1)]]:List (List AV))[Int.toNat 0]?.getD []=[eI (-1)]:=rfl;have b0:(0:Int)<((1:Nat):Int):=by decide
 have z0:decide ((0:Int)<0)=false:=rfl;have z1:decide (((1:Nat):Int)<=0)=false:=rfl;have z2:decide ((-1:Int)<0)=true:=rfl
 repeat' first|refine gf (kf z0 (kf z1 (kf z2 (kf e0 b0)))) ?_|decide|refine sp ?_ ?_<;>intro _
 all_goals exact aB (by first|rfl|simp [AV.ren,AV.renL])
theorem Ca:ap Tryz.prog 81 [.sl 1 [[eI (-1)]],eI 0] (val (.slice none 0 0)):=by
 refine aa ae Tryz.func81 rfl (by decide) Tryz.ntmps81 Tryz.results81 rfl (aq _) ?_;have hI:=Ei
 repeat' first|refine gq ?_|decide|refine sp ?_ ?_<;>intro _|refine cA hI ?_|fail
 all_goals trace_state
theorem xw:ap Tryz.prog 37 [.sl 1 [[eI (-1)]]] (val (.int .i64 (-1))):=by
 refine aa ae Tryz.func37 rfl (by decide) Tryz.ntmps37 Tryz.results37 rfl (aq _) ?_;have hI:=Ei;have hA:=Ca
 repeat' first|refine go ?_|decide|refine sp ?_ ?_<;>intro _
 refine af (fun st=>∃ k:Nat,k<=1 /\ st=⟨40,[(0,.sl 1 [[eI (-1)]]),(9,eI 1),(10,eI (k:Int))],[],0⟩) (fun st=>1 - aw st 10) ⟨_,(wE trivial),0,by omega,rfl⟩ ?_;rintro _ ⟨k,hk,rfl⟩;rcases (by omega:k=0 \/ k=1) with rfl|rfl
 .have z0:decide (((0:Nat):Int)<1)=true:=rfl;have z1:decide ((0:Int)<((0:Nat):Int))=false:=rfl
  repeat' first|refine gf (kf z0 z1) ?_|decide|refine sp ?_ ?_<;>intro _|refine cA hA ?_|refine cA hI ?_|fail
  all_goals exact rI wC ⟨1,by omega,rfl⟩
 .have z1:decide (((1:Nat):Int)<1)=false:=rfl
  repeat' first|refine gf z1 ?_|decide|refine sp ?_ ?_<;>intro _
theorem vd:ap Tryz.prog 38 [.agg (am bz)] (cu 3 1 [[eI (-1)]]):=by
 refine aa ae Tryz.func38 rfl (by decide) Tryz.ntmps38 Tryz.results38 rfl (cK _ _ _) ?_
 repeat' first|refine go ?_|simp only [bz]|decide|refine sp ?_ ?_<;>intro _
 refine af (fun st=>∃ k:Nat,k<=1 /\ st=⟨20,[(1,.op 0 0 0),(3,.osl 1),(7,.sl 2 [[eS ⟨#[115]⟩,eI (-1)]]),(8,eI 1),(9,eI (k:Int))],[(0,some (.box 32 (am bz))),(1,some (.row 3 1 (List.replicate k [eI (-1)])))],2⟩) (fun st=>1 - aw st 9) ⟨_,((aW 3 3 1 (by simp only [f9,ai.get,a7,ai.put,↓reduceIte,reduceCtorEq,Nat.reduceLT,Nat.reduceEqDiff,Nat.reduceAdd,Nat.reduceLeDiff,eq_self,implies_true,bz,JN,Jo,Jh,Kf,List.replicate])).trans (wS [0,1] (kf @bz.eq_1 (kf @List.replicate_succ.{0} @List.replicate_zero.{0})))),0,by omega,rfl⟩ ?_;rintro _ ⟨k,hk,rfl⟩;rcases (by omega:k=0 \/ k=1) with rfl|rfl
 .have z0:decide (((0:Nat):Int)<1)=true:=rfl;have e0:([[eS ⟨#[115]⟩,eI (-1)]]:List (List AV))[Int.toNat ((0:Nat):Int)]?.getD []=[eS ⟨#[115]⟩,eI (-1)]:=rfl;have b0:(0:Int)<((1:Nat):Int):=by decide
  repeat' first|refine ge (kf z0 (kf e0 (kf b0 (kf @List.length_cons.{0} (kf @List.length_nil.{0} (kf @List.replicate_succ.{0} @List.replicate_zero.{0})))))) ?_|decide|refine sp ?_ ?_<;>intro _
  exact ⟨rfl,rI (wS [0,4] (kf @List.replicate_succ.{0} @List.replicate_zero.{0})) ⟨1,by omega,rfl⟩⟩
 .have z1:decide (((1:Nat):Int)<1)=false:=rfl
  repeat' first|refine gf z1 ?_|decide|refine sp ?_ ?_<;>intro _
  all_goals exact a5 (by simp [ag.gc,List.replicate])
theorem zW:ap Tryz.prog 35 [.agg (am bz)] (val (.bool true)):=by
 refine aa ae Tryz.func35 rfl (by decide) Tryz.ntmps35 Tryz.results35 rfl (aq _) ?_
 repeat' first|refine go ?_|simp only [bz]|decide|refine sp ?_ ?_<;>intro _
 refine aC ?_
 repeat' first|refine ge (kf @fk (kf @ff @fm)) ?_|decide|refine sp ?_ ?_<;>intro _
 refine af (fun st=>∃ k:Nat,k<=1 /\ st=⟨132,[(1,.op 0 0 0),(36,.sl 2 [[eS ⟨#[115]⟩,eI (-1)]]),(37,eI 1),(38,eI (k:Int))],[(0,some (.box 32 (am bz)))],1⟩) (fun st=>1 - aw st 38) ⟨_,(wE @bz.eq_1),0,by omega,rfl⟩ ?_;rintro _ ⟨k,hk,rfl⟩;rcases (by omega:k=0 \/ k=1) with rfl|rfl
 .have z0:decide (((0:Nat):Int)<1)=true:=rfl;have e0:([[eS ⟨#[115]⟩,eI (-1)]]:List (List AV))[Int.toNat ((0:Nat):Int)]?.getD []=[eS ⟨#[115]⟩,eI (-1)]:=rfl;have b0:(0:Int)<((1:Nat):Int):=by decide
  have q:((-1:Int) != -1)=false:=rfl
  repeat' first|refine gf (kf z0 (kf e0 (kf b0 q))) ?_|decide|refine sp ?_ ?_<;>intro _
  all_goals exact rI (wR [0]) ⟨1,by omega,rfl⟩
 .have z1:decide (((1:Nat):Int)<1)=false:=rfl
  repeat' first|refine go ?_|simp only [z1,bz]|decide|refine sp ?_ ?_<;>intro _
  refine aC ?_
  repeat' first|refine ge (kf @fk (kf @ff @fm)) ?_|decide|refine sp ?_ ?_<;>intro _
  refine aC ?_
  repeat' first|refine ge (kf @fk (kf @ff @fm)) ?_|decide|refine sp ?_ ?_<;>intro _
  refine aC ?_
  repeat' first|refine ge (kf @fk (kf @ff @fm)) ?_|decide|refine sp ?_ ?_<;>intro _
  refine aC ?_
  repeat' first|refine gf (kf @fk (kf @ff @fm)) ?_|decide|refine sp ?_ ?_<;>intro _
theorem FV:ap Tryz.prog 85 [.agg (am bz)] (val (.slice none 0 0)):=by
 refine aa ae Tryz.func85 rfl (by decide) Tryz.ntmps85 Tryz.results85 rfl (aq _) ?_
 repeat' first|refine go ?_|simp only [bz]|decide|refine sp ?_ ?_<;>intro _
 refine aC ?_
 repeat' first|refine ge (kf @fk (kf @ff @fm)) ?_|decide|refine sp ?_ ?_<;>intro _
 refine aC ?_
 repeat' first|refine gf (kf @fk (kf @ff @fm)) ?_|decide|refine sp ?_ ?_<;>intro _
theorem yg:ap Tryz.prog 40 [.agg (am bz)] ⟨.tup [.c (.slice none 0 0),eI 0],[],0⟩:=by
 have hok:(⟨.tup [.c (.slice none 0 0),eI 0],[],0⟩:bS).Ok:=⟨fun id o h=>(by cases h),⟨trivial,trivial,trivial⟩⟩;refine aa ae Tryz.func40 rfl (by decide) Tryz.ntmps40 Tryz.results40 rfl (hok) ?_;have hA:=FV
 repeat' first|refine go ?_|decide|refine sp ?_ ?_<;>intro _
 refine ak hA ?_
 repeat' first|refine go ?_|decide|refine sp ?_ ?_<;>intro _
 refine aC ?_
 repeat' first|refine gf (kf @fk (kf @ff @fm)) ?_|decide|refine sp ?_ ?_<;>intro _
 all_goals exact aB (by first|rfl|simp [AV.ren,AV.renL])
theorem zQ:ap Tryz.prog 41 [.c (.slice none 0 0),.sl 2 []] (val (.bool true)):=by
 refine aa ae Tryz.func41 rfl (by decide) Tryz.ntmps41 Tryz.results41 rfl (aq _) ?_;have q:(((0:Nat):Int) != ((0:Nat):Int))=false:=rfl
 repeat' first|refine ge q ?_|decide|refine sp ?_ ?_<;>intro _
 refine aC ?_
 repeat' first|refine gf (kf @fk (kf @ff @fm)) ?_|decide|refine sp ?_ ?_<;>intro _
end
section
theorem wV {vs:Array Value} {a:AV} (hn:vs.size=[a].length):∃ x,vs = #[x]:=⟨vs[0]'(by simp at hn;omega),by
 apply KS (by simpa using hn);intro i h1 h2;simp at h2;subst h2;rfl⟩
theorem og:ap Tryz.prog 134 [.c (.int .u64 0)] (val (.int .i64 (Lib.bitLen 0))):=
 bo (bC Tryz.func134 rfl (by decide)) fun S w vs hS hn hv=>by
  obtain ⟨a,rfl⟩:=wV hn;have h:=hv 0 a _ rfl rfl;cases h;exact (Tryz.bits_Len 0 w (by decide) (by decide)).mono (by rintro e w' ⟨rfl,rfl⟩;exact ⟨rfl,Below.refl _ _⟩)
theorem qq:ap Tryz.prog 111 [.c (.slice none 0 0)] (val (.slice none 0 0)):=by
 refine aa ae Tryz.func111 rfl (by decide) Tryz.ntmps111 Tryz.results111 rfl (aq _) ?_;have q2:decide (((0:Nat):Int)<2)=true:=rfl
 repeat' first|refine gf q2 ?_|decide|refine sp ?_ ?_<;>intro _
theorem uL:ap Tryz.prog 109 [.c (.slice none 0 0)] (val (.slice none 0 0)):=by
 refine aa ae Tryz.func109 rfl (by decide) Tryz.ntmps109 Tryz.results109 rfl (aq _) ?_
 repeat' first|refine gq ?_|decide|refine sp ?_ ?_<;>intro _
theorem lL:(⟨.tup [],[],0⟩:bS).Ok:=⟨fun id o h=>(by cases h),trivial⟩
theorem IC:IntKind.i64.wrap ((0:Int)+1)=1:=rfl
theorem IP:IntKind.i64.wrap ((0:Int) - 0)=0:=rfl
theorem IM:decide ((1:Int)<0)=false:=rfl
theorem Iy:decide ((0:Int)<=12)=true:=rfl
theorem BQ:ap Tryz.prog 147 [.c (.slice none 0 0),eI 0,eI 0] ⟨.tup [],[],0⟩:=by
 refine aa ae Tryz.func147 rfl (by decide) Tryz.ntmps147 Tryz.results147 rfl (lL) ?_
 repeat' first|refine ge IC ?_|decide|refine sp ?_ ?_<;>intro _
 refine aC ?_
 repeat' first|refine gf (kf IC IM) ?_|decide|refine sp ?_ ?_<;>intro _
 all_goals exact aB (by first|rfl|simp [AV.ren,AV.renL])
theorem AW (n:Int):ap Tryz.prog 133 [.c (.slice none 0 0),eI 0,eI 0,eI n] ⟨.tup [],[],0⟩:=by
 refine aa ae Tryz.func133 rfl (by decide) Tryz.ntmps133 Tryz.results133 rfl (lL) ?_;have hI:=BQ
 repeat' first|refine go ?_|decide|refine sp ?_ ?_<;>intro _
 refine aC ?_
 repeat' first|refine gf (kf IP Iy) ?_|decide|refine sp ?_ ?_<;>intro _|refine cA hI ?_|fail
 all_goals exact aB (by first|rfl|simp [AV.ren,AV.renL])
theorem yz:ap Tryz.prog 110 [.c (.slice none 0 0)] ⟨.tup [],[],0⟩:=by
 refine aa ae Tryz.func110 rfl (by decide) Tryz.ntmps110 Tryz.results110 rfl (lL) ?_;have hB:=og;have hP:=AW (Lib.bitLen 0);have e0:IntKind.u64.wrap ((0:Nat):Int)=0:=rfl
 repeat' first|refine gf e0 ?_|decide|refine sp ?_ ?_<;>intro _|refine cA hB ?_|refine cA hP ?_|fail
 all_goals exact aB (by first|rfl|simp [AV.ren,AV.renL])
theorem l6:ap Tryz.prog 84 [.c (.slice none 0 0)] (val (.slice none 0 0)):=by
 refine aa ae Tryz.func84 rfl (by decide) Tryz.ntmps84 Tryz.results84 rfl (aq _) ?_
 repeat' first|refine gq ?_|decide|refine sp ?_ ?_<;>intro _|((with_reducible first|apply ak (g:=109)|apply aD (g:=109));exact uL)|((with_reducible apply dJ (g:=110));exact (yz);exact (ro))|((with_reducible first|apply ak (g:=111)|apply aD (g:=111));exact qq)
theorem qs:ap Tryz.prog 83 [.c (.slice none 0 0)] (val (.slice none 0 0)):=by
 refine aa ae Tryz.func83 rfl (by decide) Tryz.ntmps83 Tryz.results83 rfl (aq _) ?_
 repeat' first|refine go ?_|decide|refine sp ?_ ?_<;>intro _
 refine ak tk ?_
 repeat' first|refine go ?_|decide|refine sp ?_ ?_<;>intro _
 refine aC ?_
 repeat' first|refine gf (kf @fk (kf @ff @fm)) ?_|decide|refine sp ?_ ?_<;>intro _|((with_reducible first|apply ak (g:=84)|apply aD (g:=84));exact l6)
theorem xG:ap Tryz.prog 39 [.agg (am bz),.c (.slice none 0 0)] (val (.slice none 0 0)):=by
 refine aa ae Tryz.func39 rfl (by decide) Tryz.ntmps39 Tryz.results39 rfl (aq _) ?_
 repeat' first|refine go ?_|simp only [bz]|decide|refine sp ?_ ?_<;>intro _
 refine ak qs ?_
 repeat' first|refine go ?_|simp only [bz]|decide|refine sp ?_ ?_<;>intro _
 refine aC ?_
 repeat' first|refine go ?_|simp only [bz,fk,ff,fm]|decide|refine sp ?_ ?_<;>intro _
 refine aC ?_
 repeat' first|refine gq ?_|simp only [bz,fk,ff,fm]|decide|refine sp ?_ ?_<;>intro _|((with_reducible first|apply ak (g:=84)|apply aD (g:=84));exact l6)
end
section
theorem yu:ap Tryz.prog 17 [.agg (am bz)] (val (.bool true)):=by
 refine aa ae Tryz.func17 rfl (by decide) Tryz.ntmps17 Tryz.results17 rfl (aq _) ?_;have q0:decide ((0:Int) <= -1)=false:=rfl;have q6:decide ((6:Int)<((0:Nat):Int))=false:=rfl;have q1:((0:Int) == 0)=true:=rfl;have hF:=GG;have hP:=zW;have hB:=Bi;have hO:=yg;have hC:=xG;have hN:=vd;have hCi:=xw
 repeat' first|refine gf (kf q0 (kf q6 q1)) ?_|decide|refine sp ?_ ?_<;>intro _|refine cA hF ?_|refine cA hP ?_|refine cA hB ?_|fail
 refine cQ hN (ro) ?_
 repeat' first|refine gf (kf q0 (kf q6 q1)) ?_|decide|refine sp ?_ ?_<;>intro _|refine cA hCi ?_|refine cA hC ?_|refine cA hO ?_|((with_reducible first|apply ak (g:=41)|apply aD (g:=41));exact zQ)
 all_goals trace_state
theorem Ds:ap Tryz.prog 159 [.c (.slice none 0 0),eI 0,eI 0] ⟨.tup [],[],0⟩:=by
 refine aa ae Tryz.func159 rfl (by decide) Tryz.ntmps159 Tryz.results159 rfl (lL) ?_
 repeat' first|refine ge IC ?_|decide|refine sp ?_ ?_<;>intro _
 refine aC ?_
 repeat' first|refine gf (kf IC IM) ?_|decide|refine sp ?_ ?_<;>intro _
 all_goals exact aB (by first|rfl|simp [AV.ren,AV.renL])
theorem D5 (n:Int):ap Tryz.prog 138 [.c (.slice none 0 0),eI 0,eI 0,eI n] ⟨.tup [],[],0⟩:=by
 refine aa ae Tryz.func138 rfl (by decide) Tryz.ntmps138 Tryz.results138 rfl (lL) ?_;have hI:=Ds
 repeat' first|refine go ?_|decide|refine sp ?_ ?_<;>intro _
 refine aC ?_
 repeat' first|refine gf (kf IP Iy) ?_|decide|refine sp ?_ ?_<;>intro _|refine cA hI ?_|fail
 all_goals exact aB (by first|rfl|simp [AV.ren,AV.renL])
theorem Ay:ap Tryz.prog 118 [.c (.slice none 0 0)] ⟨.tup [],[],0⟩:=by
 refine aa ae Tryz.func118 rfl (by decide) Tryz.ntmps118 Tryz.results118 rfl (lL) ?_;have hB:=og;have hP:=D5 (Lib.bitLen 0);have e0:IntKind.u64.wrap ((0:Nat):Int)=0:=rfl
 repeat' first|refine gf e0 ?_|decide|refine sp ?_ ?_<;>intro _|refine cA hB ?_|refine cA hP ?_|fail
 all_goals exact aB (by first|rfl|simp [AV.ren,AV.renL])
theorem Am:ap Tryz.prog 93 [.c (.slice none 0 0)] (val (.slice none 0 0)):=by
 refine aa ae Tryz.func93 rfl (by decide) Tryz.ntmps93 Tryz.results93 rfl (aq _) ?_
 repeat' first|refine go ?_|decide|refine sp ?_ ?_<;>intro _
 refine ak tk ?_
 repeat' first|refine go ?_|decide|refine sp ?_ ?_<;>intro _
 refine aC ?_
 repeat' first|refine gf (kf @fk (kf @ff @fm)) ?_|decide|refine sp ?_ ?_<;>intro _|((with_reducible apply dJ (g:=118));exact (Ay);exact (ro))|((with_reducible first|apply ak (g:=119)|apply aD (g:=119));exact tn)
theorem Cm:ap Tryz.prog 42 [.agg (am bz)] ⟨.tup [eI 0,eI 0],[],0⟩:=by
 have hok:(⟨.tup [eI 0,eI 0],[],0⟩:bS).Ok:=⟨fun id o h=>(by cases h),⟨trivial,trivial,trivial⟩⟩;refine aa ae Tryz.func42 rfl (by decide) Tryz.ntmps42 Tryz.results42 rfl (hok) ?_;have hC:=BE
 repeat' first|refine go ?_|decide|refine sp ?_ ?_<;>intro _
 refine ak hC ?_
 repeat' first|refine go ?_|decide|refine sp ?_ ?_<;>intro _
 refine ak Am ?_
 repeat' first|refine go ?_|decide|refine sp ?_ ?_<;>intro _
 refine ak yH ?_
 repeat' first|refine go ?_|simp only [bz]|decide|refine sp ?_ ?_<;>intro _
 refine aC ?_
 repeat' first|refine gf (kf @fk (kf @ff @fm)) ?_|decide|refine sp ?_ ?_<;>intro _
 all_goals exact aB (by first|rfl|simp [AV.ren,AV.renL])
end
section
abbrev ij:List (List AV):=[[eI 0,.fn 47 [.rp [eI 0]]],[eI 0,.fn 49 [.rp [eI 0],.rp [eI 0]]],[eI 0,.fn 50 [.rp [eI 0]]],[eI 0,.fn 51 [.rp [eI 0]]],[eI 1,.fn 52 [.rp [eI 0]]],[eI 1,.fn 53 [.rp [eI 0]]],[eI 0,.fn 54 [.rp (am bz)]],[eI 0,.fn 56 [.rp (am bz)]],[eI 0,.fn 57 [.rp (am bz)]],[eI 0,.fn 59 [.rp (am bz)]],[eI 0,.fn 60 [.rp [.fn 46 [.rp (am bz)]],.rp (am bz)]]]
theorem zk:bh Tryz.prog 18 [.agg (am bz)] fun R=>R=cu 71 2 ij:=by
 refine gQ Tryz.func18 rfl (by decide) Tryz.ntmps18 Tryz.results18 rfl ?_;have hG:=uu;have hFi:=wX;refine b5 (fun st=>st=⟨104,[(1,.op 0 0 0)],[(0,some (.box 32 (am bz)))],1⟩) (cy ae ?_) ?_
 .repeat' first|refine gq ?_|decide|refine sp ?_ ?_<;>intro _
  all_goals exact bG wC rfl
 rintro _ rfl;refine b5 (fun st=>st=⟨104,[(1,.op 0 0 0),(3,.op 1 0 0),(4,.op 2 0 0)],[(0,some (.box 32 (am bz))),(1,some (.box 3 [eI 0])),(2,some (.box 3 [eI 0]))],3⟩) (cy ae ?_) ?_
 .repeat' first|refine gq ?_|decide|refine sp ?_ ?_<;>intro _|((with_reducible apply dJ (g:=42));exact (Cm);exact (ro))
  all_goals exact bG wC rfl
 rintro _ rfl;refine b5 (fun st=>st=⟨104,[(1,.op 0 0 0),(3,.op 1 0 0),(4,.op 2 0 0),(5,.op 3 0 0),(6,.op 4 0 0)],[(0,some (.box 32 (am bz))),(1,some (.box 3 [eI 0])),(2,some (.box 3 [eI 0])),(3,some (.box 3 [eI 0])),(4,some (.box 3 [eI 0]))],5⟩) (cy ae ?_) ?_
 .repeat' first|refine gq ?_|decide|refine sp ?_ ?_<;>intro _
  all_goals exact bG wC rfl
 rintro _ rfl;refine b5 (fun st=>st=⟨104,[(1,.op 0 0 0),(3,.op 1 0 0),(4,.op 2 0 0),(5,.op 3 0 0),(6,.op 4 0 0)],[(0,some (.box 32 (am bz))),(1,some (.box 3 [eI 0])),(2,some (.box 3 [eI 0])),(3,some (.box 3 [eI 0])),(4,some (.box 3 [eI 0]))],5⟩) (cy ae ?_) ?_
 .repeat' first|refine go ?_|simp only [bz]|decide|refine sp ?_ ?_<;>intro _
  refine aC ?_
  repeat' first|refine gf (kf @fk (kf @ff @fm)) ?_|decide|refine sp ?_ ?_<;>intro _
  all_goals exact bG (wE @bz.eq_1) rfl
 rintro _ rfl;refine b5 (fun st=>st=⟨104,[(1,.op 0 0 0),(3,.op 1 0 0),(4,.op 2 0 0),(5,.op 3 0 0),(6,.op 4 0 0)],[(0,some (.box 32 (am bz))),(1,some (.box 3 [eI 0])),(2,some (.box 3 [eI 0])),(3,some (.box 3 [eI 0])),(4,some (.box 3 [eI 0]))],5⟩) (cy ae ?_) ?_
 .repeat' first|refine go ?_|simp only [bz]|decide|refine sp ?_ ?_<;>intro _
  refine aC ?_
  repeat' first|refine gf (kf @fk (kf @ff @fm)) ?_|decide|refine sp ?_ ?_<;>intro _
  all_goals exact bG (wE @bz.eq_1) rfl
 rintro _ rfl;refine b5 (fun st=>st=⟨104,[(1,.op 0 0 0),(3,.op 1 0 0),(4,.op 2 0 0),(5,.op 3 0 0),(6,.op 4 0 0),(11,.op 5 0 0),(12,.op 6 0 0)],[(0,some (.box 32 (am bz))),(1,some (.box 3 [eI 0])),(2,some (.box 3 [eI 0])),(3,some (.box 3 [eI 0])),(4,some (.box 3 [eI 0])),(5,some (.box 3 [eI 0])),(6,some (.box 3 [eI 0]))],7⟩) (cy ae ?_) ?_
 .repeat' first|refine go ?_|decide|refine sp ?_ ?_<;>intro _
  refine bk [] [0,2] (.three 1 (.three 3 (.two 4 (.exec 5 (.exec 6 (.exec 7 .done))) 5 (.exec 4 (.exec 6 (.exec 7 .done)))) 4 (.two 3 (.exec 5 (.exec 6 (.exec 7 .done))) 5 (.exec 3 (.exec 6 (.exec 7 .done)))) 5 (.two 3 (.exec 4 (.exec 6 (.exec 7 .done))) 4 (.exec 3 (.exec 6 (.exec 7 .done))))) 4 (.two 1 (.two 3 (.exec 5 (.exec 6 (.exec 7 .done))) 5 (.exec 3 (.exec 6 (.exec 7 .done)))) 5 (.exec 1 (.exec 3 (.exec 6 (.exec 7 .done))))) 5 (.two 1 (.two 3 (.exec 4 (.exec 6 (.exec 7 .done))) 4 (.exec 3 (.exec 6 (.exec 7 .done)))) 4 (.exec 1 (.exec 3 (.exec 6 (.exec 7 .done)))))) (by kernel_rfl) (by simp [ag.gc]) ?_
  repeat' first|refine gq ?_|decide|refine sp ?_ ?_<;>intro _|refine cA hG ?_|refine cA hFi ?_|(with_reducible apply And.intro)
  all_goals first
   | exact bG (wR [0,1,2,3,4,5,6]) rfl
   | exact bG (wR [0,1,2,3,4,6,5]) rfl
 rintro _ rfl;refine SC.weak ((((((((cN 0 (ty:=32) (cells:=am bz) (by simp [ag.gc]) (by simp [aI,aQ]) (by simp [bK,cp,aI,aQ]))).trans (cN 1 (ty:=3) (cells:=[eI 0]) (by simp [ag.gc]) (by simp [aI,aQ]) (by simp [bK,cp,aI,aQ]))).trans (cN 2 (ty:=3) (cells:=[eI 0]) (by simp [ag.gc]) (by simp [aI,aQ]) (by simp [bK,cp,aI,aQ]))).trans (cN 3 (ty:=3) (cells:=[eI 0]) (by simp [ag.gc]) (by simp [aI,aQ]) (by simp [bK,cp,aI,aQ]))).trans (cN 4 (ty:=3) (cells:=[eI 0]) (by simp [ag.gc]) (by simp [aI,aQ]) (by simp [bK,cp,aI,aQ]))).trans (cN 5 (ty:=3) (cells:=[eI 0]) (by simp [ag.gc]) (by simp [aI,aQ]) (by simp [bK,cp,aI,aQ]))).trans (cN 6 (ty:=3) (cells:=[eI 0]) (by simp [ag.gc]) (by simp [aI,aQ]) (by simp [bK,cp,aI,aQ]))) ?_;simp only [fY,AV.rpz,AV.rpzL,↓reduceIte,List.drop_zero,Nat.reduceEqDiff,KI,KQ];refine SC.weak (wC:dw _ ⟨104,[(1,.rp (am bz)),(3,.rp [eI 0]),(4,.rp [eI 0]),(5,.rp [eI 0]),(6,.rp [eI 0]),(11,.rp [eI 0]),(12,.rp [eI 0])],[],0⟩) ?_;refine b5 (fun st=>st=⟨104,[(1,.rp (am bz)),(3,.rp [eI 0]),(4,.rp [eI 0]),(5,.rp [eI 0]),(6,.rp [eI 0]),(11,.rp [eI 0]),(12,.rp [eI 0]),(13,.op 0 0 0)],[(0,some (.box 87 [.fn 46 [.rp (am bz)]]))],1⟩) (cy ae ?_) ?_
 .repeat' first|refine gq ?_|decide|refine sp ?_ ?_<;>intro _
  all_goals exact bG (wR [0]) rfl
 rintro _ rfl;refine SC.weak (nW 0 (ty:=87) (cells:=[.fn 46 [.rp (am bz)]]) (by simp [ag.gc]) (by simp [eY,me,aI,aQ]) (by simp [bK])) ?_;simp only [fY,AV.rpz,AV.rpzL,↓reduceIte,List.drop_zero,Nat.reduceEqDiff,KI,KQ];refine cy ae ?_
 repeat' first|refine gq ?_|simp only [bz]|decide|refine sp ?_ ?_<;>intro _|(with_reducible apply And.intro)
 all_goals first
  | rfl
  | exact kE (rows:=ij) (e:=71) (sz:=2) (by simp [ag.gc,ij,bz]) rfl
end
end
section
section
theorem CT:ap Tryz.prog 52 [eI 0,.rp [eI 0]] (val (.bool true)):=by
 refine aa ae Tryz.func52 rfl (by decide) Tryz.ntmps52 Tryz.results52 rfl (aq _) ?_;have hH:=ju 0 0;have e:aR 0 0=false:=rfl;rw [e] at hH
 repeat' first|refine gq ?_|decide|refine sp ?_ ?_<;>intro _|refine cA hH ?_|fail
theorem CB:ap Tryz.prog 53 [eI 0,.rp [eI 0]] (val (.bool true)):=by
 refine aa ae Tryz.func53 rfl (by decide) Tryz.ntmps53 Tryz.results53 rfl (aq _) ?_;have hH:=ju 0 0;have e:aR 0 0=false:=rfl;rw [e] at hH
 repeat' first|refine gq ?_|decide|refine sp ?_ ?_<;>intro _|refine cA hH ?_|fail
def dl (k:Nat):List (List AV):=(if 4<k then [[eI 5,eI 0]] else []) ++ (if 5<k then [[eI 6,eI 0]] else [])
theorem A1:bh Tryz.prog 7 [.agg (am bz)] fun R=>R=cu 49 2 [[eI 5,eI 0],[eI 6,eI 0]]:=by
 have hC:=yu;refine gQ Tryz.func7 rfl (by decide) Tryz.ntmps7 Tryz.results7 rfl ?_;refine b5 (fun st=>st=⟨38,[(1,.op 0 0 0)],[(0,some (.box 32 (am bz)))],1⟩) (cy ae ?_) ?_
 .repeat' first|refine gq ?_|decide|refine sp ?_ ?_<;>intro _
  all_goals exact bG wC rfl
 rintro _ rfl;refine b5 (fun st=>st=⟨38,[(1,.op 0 0 0),(3,.c (.slice none 0 0))],[(0,some (.box 32 (am bz)))],1⟩) (cy ae ?_) ?_
 .repeat' first|refine gq ?_|decide|refine sp ?_ ?_<;>intro _
  all_goals exact bG wC rfl
 rintro _ rfl;refine b5 (fun st=>st=⟨38,[(1,.op 0 0 0),(3,.c (.slice none 0 0))],[(0,some (.box 32 (am bz)))],1⟩) (cy ae ?_) ?_
 .repeat' first|refine gq ?_|decide|refine sp ?_ ?_<;>intro _|refine cA hC ?_|fail
  all_goals exact bG wC rfl
 rintro _ rfl;refine b5 (fun st=>st=⟨38,[(3,.osl 0)],[(0,some (.row 49 2 (dl 11)))],1⟩) (cy ae ?_) ?_
 .repeat' first|refine go ?_|decide|refine sp ?_ ?_<;>intro _
  refine cQ zk (ro) ?_
  repeat' first|refine go ?_|decide|refine sp ?_ ?_<;>intro _
  refine af (fun st=>∃ k:Nat,k<=11 /\ st=⟨38,[(3,.osl 0),(12,.sl 2 ij),(13,eI 11),(14,eI (k:Int))],[(0,some (.row 49 2 (dl k)))],1⟩) (fun st=>11 - aw st 14) ?_ ?_
  .refine ⟨_,(sL _ 1).trans ?_,0,by omega,rfl⟩;simp [fo,eT,bP,ag.gc,aE.frz,AV.frz,AV.frzL];exact ((aW 3 49 2 (by simp only [f9,ai.get,a7,ai.put,↓reduceIte,reduceCtorEq,Nat.reduceLT,Nat.reduceEqDiff,Nat.reduceAdd,Nat.reduceLeDiff,eq_self,implies_true,dl,Jh,Kf,JS])).trans (wS [2] @dl.eq_1))
  rintro _ ⟨k,hk,rfl⟩;by_cases hlt:k<11
  .have z0:decide ((k:Int)<11)=true:=Jc (by omega);by_cases h45:k=4 \/ k=5
   .rcases h45 with rfl | rfl
    .have r1:ij[Int.toNat ((4:Nat):Int)]?.getD []=[eI 1,.fn 52 [.rp [eI 0]]]:=rfl;have r2:ij[4]?.getD []=[eI 1,.fn 52 [.rp [eI 0]]]:=rfl
     repeat' first|refine ge (kf z0 (kf r1 r2)) ?_|decide|refine sp ?_ ?_<;>intro _
     refine af (fun st=>∃ j:Nat,j<=1 /\ st=⟨38,[(3,.osl 0),(4,eI ((4:Nat):Int)),(5,.op 1 0 0),(12,.sl 2 ij),(13,eI 11),(14,eI ((4:Nat):Int)),(20,eI 1),(21,eI (j:Int))],[(0,some (.row 49 2 (dl (4+j)))),(1,some (.box 71 [eI 1,.fn 52 [.rp [eI 0]]]))],2⟩) (fun st=>1 - aw st 21) ⟨_,wC,0,by omega,rfl⟩ ?_;rintro _ ⟨j,hj,rfl⟩;rcases (by omega:j=0 \/ j=1) with rfl|rfl
     .have y0:decide (((0:Nat):Int)<1)=true:=rfl;have hR:=CT;have w5:IntKind.i64.wrap (((4:Nat):Int)+1)=5:=rfl;have y5:IntKind.i64.wrap (((0:Nat):Int)+1)=((1:Nat):Int):=rfl;have nr:dl 4 ++ [[eI 5,eI ((0:Nat):Int)]]=dl (4+1):=rfl;have nl:(dl 4).length<=2:=(by decide)
      repeat' first|refine gf (kf y0 w5) ?_|decide|refine sp ?_ ?_<;>intro _|refine cA hR ?_|fail
      all_goals exact ⟨rfl,⟨by omega,by omega⟩,rI (wS [3,1] (kf w5 (kf y5 nr))) ⟨1,by omega,rfl⟩⟩
     .have y1:decide (((1:Nat):Int)<1)=false:=rfl
      repeat' first|refine gf y1 ?_|decide|refine sp ?_ ?_<;>intro _
      all_goals exact rI (wR [0]) ⟨5,by omega,rfl⟩
    .have r1:ij[Int.toNat ((5:Nat):Int)]?.getD []=[eI 1,.fn 53 [.rp [eI 0]]]:=rfl;have r2:ij[5]?.getD []=[eI 1,.fn 53 [.rp [eI 0]]]:=rfl
     repeat' first|refine ge (kf z0 (kf r1 r2)) ?_|decide|refine sp ?_ ?_<;>intro _
     refine af (fun st=>∃ j:Nat,j<=1 /\ st=⟨38,[(3,.osl 0),(4,eI ((5:Nat):Int)),(5,.op 1 0 0),(12,.sl 2 ij),(13,eI 11),(14,eI ((5:Nat):Int)),(20,eI 1),(21,eI (j:Int))],[(0,some (.row 49 2 (dl (5+j)))),(1,some (.box 71 [eI 1,.fn 53 [.rp [eI 0]]]))],2⟩) (fun st=>1 - aw st 21) ⟨_,wC,0,by omega,rfl⟩ ?_;rintro _ ⟨j,hj,rfl⟩;rcases (by omega:j=0 \/ j=1) with rfl|rfl
     .have y0:decide (((0:Nat):Int)<1)=true:=rfl;have hR:=CB;have w5:IntKind.i64.wrap (((5:Nat):Int)+1)=6:=rfl;have y5:IntKind.i64.wrap (((0:Nat):Int)+1)=((1:Nat):Int):=rfl;have nr:dl 5 ++ [[eI 6,eI ((0:Nat):Int)]]=dl (5+1):=rfl;have nl:(dl 5).length<=2:=(by decide)
      repeat' first|refine gf (kf y0 w5) ?_|decide|refine sp ?_ ?_<;>intro _|refine cA hR ?_|fail
      all_goals exact ⟨rfl,⟨by omega,by omega⟩,rI (wS [3,1] (kf w5 (kf y5 nr))) ⟨1,by omega,rfl⟩⟩
     .have y1:decide (((1:Nat):Int)<1)=false:=rfl
      repeat' first|refine gf y1 ?_|decide|refine sp ?_ ?_<;>intro _
      all_goals exact rI (wR [0]) ⟨6,by omega,rfl⟩
   .obtain ⟨f,cs,hrow,htree⟩:∃ f cs,ij[Int.toNat (k:Int)]?.getD []=[eI 0,.fn f cs] /\ ij[k]?.getD []=[eI 0,.fn f cs]:=by
     rcases (by omega:k=0 \/ k=1 \/ k=2 \/ k=3 \/ k=6 \/ k=7 \/ k=8 \/ k=9 \/ k=10) with rfl|rfl|rfl|rfl|rfl|rfl|rfl|rfl|rfl<;>exact ⟨_,_,rfl,rfl⟩
    have hn:dl (k+1)=dl k:=by
     unfold dl;have a1:(4<k+1)=(4<k):=propext ⟨fun h=>by omega,fun h=>by omega⟩;have a2:(5<k+1)=(5<k):=propext ⟨fun h=>by omega,fun h=>by omega⟩;simp only [a1,a2]
    have w1:IntKind.i64.wrap ((k:Int)+1)=((k+1:Nat):Int):=ic (by omega);have d00:decide ((0:Int)<0)=false:=rfl
    repeat' first|refine ge (kf z0 (kf @hrow @htree)) ?_|decide|refine sp ?_ ?_<;>intro _
    refine ⟨hlt,?_⟩;refine aC ?_
    repeat' first|refine gf (kf d00 w1) ?_|decide|refine sp ?_ ?_<;>intro _
    all_goals exact rI (wS [0] (kf hn w1)) ⟨k+1,by omega,rfl⟩
  .obtain rfl:k=11:=by omega
   have z1:decide (((11:Nat):Int)<11)=false:=rfl
   repeat' first|refine gf z1 ?_|decide|refine sp ?_ ?_<;>intro _
   all_goals exact bG wC rfl
 rintro _ rfl;refine cy ae ?_
 repeat' first|refine gq ?_|decide|refine sp ?_ ?_<;>intro _
 all_goals exact kE (rows:=dl 11) (e:=49) (sz:=2) (by simp [ag.gc]) rfl
end
section
theorem FY : (Tryz.prog.fieldsOf 49).toList.map (fun f => (f.name, f.type, f.offset)) = [("Code", 3, 0), ("N", 3, 1)] := by kernel_rfl
theorem wn (op:BinOp) (hop:op=.eql \/ op=.neq) (a b:Int × Int):p4 Tryz.prog op 49 (.agg #[.int .i64 a.1,.int .i64 a.2]) (.agg #[.int .i64 b.1,.int .i64 b.2]) (.bool (if op matches .eql then (a.1 == b.1 && a.2 == b.2) else !(a.1 == b.1 && a.2 == b.2))):=by
 have ht:=FY
 obtain ⟨f,g,hfs⟩:∃ f g,(Tryz.prog.fieldsOf 49).toList=[f,g]:=by
  generalize (Tryz.prog.fieldsOf 49).toList=l at ht ⊢
  cases l with
  | nil=>simp at ht
  | cons f l=>cases l with
   | nil=>simp at ht
   | cons g l=>cases l with
    | nil=>exact ⟨f,g,rfl⟩
    | cons h l=>simp at ht
 rw [hfs] at ht;simp only [JN,Jo,List.cons.injEq,Prod.mk.injEq,and_true] at ht;obtain ⟨⟨h1,h2,h3⟩,h4,h5,h6⟩:=ht;refine o6 [(.int .i64 a.1,.int .i64 b.1),(.int .i64 a.2,.int .i64 b.2)] (by kernel_rfl) (by kernel_rfl) (by kernel_rfl) (by rw [hfs];rfl) (fun k f' p hk hp=>?_) (by simp [iX,ne]) hop;rw [hfs] at hk
 match k,hk,hp with
 | 0,hk,hp=>
  cases hk;cases hp;refine ⟨by rw [h1];decide,?_,by rw [h3];rfl,by rw [h3];rfl⟩;rw [h2]
  kernel_rfl
 | 1,hk,hp=>
  cases hk;cases hp;refine ⟨by rw [h4];decide,?_,by rw [h6];rfl,by rw [h6];rfl⟩;rw [h5]
  kernel_rfl
 | k+2,hk,hp=>simp at hk
theorem xC:ap Tryz.prog 6 [] (val (.bool true)):=by
 refine aa ae Tryz.func6 rfl (by decide) Tryz.ntmps6 Tryz.results6 rfl (aq _) ?_;have hN:=A1.fits (args:=[.agg [.c (.slice none 0 0),.c (.slice none 0 0),.c (.slice none 0 0),.c (.slice none 0 0),.sl 2 [[eS ⟨#[115]⟩,eI (-1)]],.c (.slice none 0 0),.c (.slice none 0 0),.c (.slice none 0 0),.c (.slice none 0 0),.c (.slice none 0 0)]]) ⟨.agg ⟨.nil 1,.nil 1,.nil 1,.nil 2,.refl _,.nil 5,.nil 3,.nil 5,.nil 2,.nil 2,trivial⟩,trivial⟩
 repeat' first|refine go ?_|decide|refine sp ?_ ?_<;>intro _
 refine ⟨rfl,?_⟩;refine cQ (e:=49) (sz:=2) (rows:=[[eI 5,eI 0],[eI 6,eI 0]]) ?_ (.inr ?_) ?_
 .repeat' first|decide|refine go ?_
  exact hN
 .intro row hr av ha;simp at hr;rcases hr with rfl|rfl<;>simp at ha<;>rcases ha with rfl|rfl<;>trivial
 .have e0:([[eI 5,eI 0],[eI 6,eI 0]]:List (List AV))[Int.toNat 0]?.getD []=[eI 5,eI 0]:=rfl;have e1:([[eI 5,eI 0],[eI 6,eI 0]]:List (List AV))[Int.toNat 1]?.getD []=[eI 6,eI 0]:=rfl;have b0:(0:Int)<((2:Nat):Int):=by decide
  have b1:(1:Int)<((2:Nat):Int):=by decide
  have q2:(((2:Nat):Int) == 2)=true:=rfl;have t0:Int.toNat 0<2:=by decide
  have t1:Int.toNat 1<2:=by decide
  repeat' first|refine gf (kf e0 (kf e1 (kf b0 (kf b1 (kf t0 (kf t1 q2)))))) ?_|decide|refine sp ?_ ?_<;>intro _
  refine ⟨_,wn .eql (.inl rfl) (5,0) (5,0),?_⟩
  repeat' first|refine gf (kf e0 (kf e1 (kf b0 (kf b1 (kf t0 (kf t1 (kf q2 (kf @beq_self_eq_true.{0} @Bool.and_self)))))))) ?_|decide|refine sp ?_ ?_<;>intro _
  exact ⟨by decide,_,wn .eql (.inl rfl) (6,0) (6,0),rfl⟩
end
section
theorem bN:cn Tryz.prog 3 (dq .i64):=pD Tryz.underlying3
theorem tA:cn Tryz.prog 2 (dq .i64):=pD Tryz.underlying2
def FL:eM (Int × Int × Unit):=bF (dq .i64) (bF (dq .i64) nJ)
theorem rR:cn Tryz.prog 116 FL:=
 bL Tryz.underlying116 (by kernel_rfl) (ax (by kernel_rfl) (by kernel_rfl) bN (ax (by kernel_rfl) (by kernel_rfl) tA (cf _ _)))
def H9:eM (Int × (Int × Int × Unit) × (Int × Int × Unit) × Int × Int × Unit):=bF (dq .i64) (bF FL (bF FL (bF (dq .i64) (bF (dq .i64) nJ))))
theorem tU:cn Tryz.prog 118 H9:=
 bL Tryz.underlying118 (by kernel_rfl) (ax (by kernel_rfl) (by kernel_rfl) bN (ax (by kernel_rfl) (by kernel_rfl) rR (ax (by kernel_rfl) (by kernel_rfl) rR (ax (by kernel_rfl) (by kernel_rfl) bN (ax (by kernel_rfl) (by kernel_rfl) bN (cf _ _))))))
theorem xo:cn Tryz.prog 118 kI:=dY tU (fun p=>⟨p.1,p.2.1.1,p.2.1.2.1,p.2.2.1.1,p.2.2.1.2.1,p.2.2.2.1,p.2.2.2.2.1⟩) (by
 rintro w S cs ⟨op,⟨la,ln,_⟩,⟨ra,rn,_⟩,n,u,_⟩ h;obtain ⟨c0,q0,e0,⟨a0,h0⟩,h'⟩:=aJ h;obtain ⟨c1,q1,e1,h1,h''⟩:=aJ h';obtain ⟨c2,q2,e2,h2,h3⟩:=aJ h'';obtain ⟨c3,q3,e3,⟨a3,h3'⟩,h4⟩:=aJ h3;obtain ⟨c4,q4,e4,⟨a4,h4'⟩,h5⟩:=aJ h4;have h5:q4=[]:=h5;obtain ⟨d0,k0,f0,⟨b0,g0⟩,m0⟩:=aJ h1;obtain ⟨d1,k1,f1,⟨b1,g1⟩,m1⟩:=aJ m0;have m1:k1=[]:=m1;obtain ⟨d2,k2,f2,⟨b2,g2⟩,m2⟩:=aJ h2;obtain ⟨d3,k3,f3,⟨b3,g3⟩,m3⟩:=aJ m2;have m3:k3=[]:=m3;refine ⟨?_,ci h0,ci g0,ci g1,ci g2,ci g3,ci h3',ci h4'⟩;rw [e0,e1,e2,e3,e4,h5,a0,f0,f1,m1,b0,b1,f2,f3,m3,b2,b3,a3,a4];rfl)
theorem oi:cn Tryz.prog 51 (aL kI):=bE Tryz.underlying51 (by kernel_rfl) (by decide) xo
theorem u5:cn Tryz.prog 45 (aL (dq .i64)):=bE Tryz.underlying45 (by kernel_rfl) (by decide) bN
end
section
theorem gr:cn Tryz.prog 9 mo:=pO Tryz.underlying9
theorem mZ:cn Tryz.prog 4 we:=uh Tryz.underlying4
theorem kS {t:TypeId} (h:cn Tryz.prog t (bF mo (bF (dq .i64) nJ))):cn Tryz.prog t dx:=dY h (fun p=>(p.1,p.2.1)) (by
 rintro w S cs ⟨s,n,_⟩ h;obtain ⟨c0,q0,e0,⟨a0,h0⟩,h⟩:=aJ h;obtain ⟨c1,q1,e1,⟨a1,h1⟩,h⟩:=aJ h;have h:q1=[]:=h;exact ⟨by rw [e0,e1,a0,a1,h];rfl,h0,ci h1⟩)
theorem vC:cn Tryz.prog 66 dx:=kS (bL Tryz.underlying66 (by kernel_rfl) (ax (by kernel_rfl) (by kernel_rfl) gr (ax (by kernel_rfl) (by kernel_rfl) bN (cf _ _))))
theorem wU:cn Tryz.prog 86 dx:=kS (bL Tryz.underlying86 (by kernel_rfl) (ax (by kernel_rfl) (by kernel_rfl) gr (ax (by kernel_rfl) (by kernel_rfl) bN (cf _ _))))
theorem zE:cn Tryz.prog 91 kF:=dY (r:=bF (dq .i64) (bF (dq .i64) nJ)) (bL Tryz.underlying91 (by kernel_rfl) (ax (by kernel_rfl) (by kernel_rfl) bN (ax (by kernel_rfl) (by kernel_rfl) bN (cf _ _)))) (fun p=>(p.1,p.2.1)) (by
 rintro w S cs ⟨s,n,_⟩ h;obtain ⟨c0,q0,e0,⟨a0,h0⟩,h⟩:=aJ h;obtain ⟨c1,q1,e1,⟨a1,h1⟩,h⟩:=aJ h;have h:q1=[]:=h;exact ⟨by rw [e0,e1,a0,a1,h];rfl,ci h0,ci h1⟩)
theorem td:cn Tryz.prog 97 kM:=dY (r:=bF we (bF (dq .i64) nJ)) (bL Tryz.underlying97 (by kernel_rfl) (ax (by kernel_rfl) (by kernel_rfl) mZ (ax (by kernel_rfl) (by kernel_rfl) bN (cf _ _)))) (fun p=>(p.1,p.2.1)) (by
 rintro w S cs ⟨s,n,_⟩ h;obtain ⟨c0,q0,e0,a0,h⟩:=aJ h;have a0:c0=[.bool s]:=a0;obtain ⟨c1,q1,e1,⟨a1,h1⟩,h⟩:=aJ h;have h:q1=[]:=h;exact ⟨by rw [e0,e1,a0,a1,h];rfl,ci h1⟩)
theorem tW:cn Tryz.prog 53 HH:=dY (r:=bF (dq .i64) (bF (dq .i64) (bF (aL kI) nJ))) (bL Tryz.underlying53 (by kernel_rfl) (ax (by kernel_rfl) (by kernel_rfl) bN (ax (by kernel_rfl) (by kernel_rfl) bN (ax (by kernel_rfl) (by kernel_rfl) oi (cf _ _))))) (fun p=>⟨p.1,p.2.1,p.2.2.1⟩) (by
 rintro w S cs ⟨s,n,l,_⟩ h;obtain ⟨c0,q0,e0,⟨a0,h0⟩,h⟩:=aJ h;obtain ⟨c1,q1,e1,⟨a1,h1⟩,h⟩:=aJ h;obtain ⟨c2,q2,e2,h2,h⟩:=aJ h;have h:q2=[]:=h;obtain ⟨cv,rfl,h2⟩:=da (r:=aL kI) rfl h2;exact ⟨cv,by rw [e0,e1,e2,a0,a1,h];rfl,h2,ci h0,ci h1⟩)
theorem xe:cn Tryz.prog 55 Iq:=dY (r:=bF mo (bF (dq .i64) (bF (dq .i64) (bF (aL kI) (bF we nJ))))) (bL Tryz.underlying55 (by kernel_rfl) (ax (by kernel_rfl) (by kernel_rfl) gr (ax (by kernel_rfl) (by kernel_rfl) bN (ax (by kernel_rfl) (by kernel_rfl) bN (ax (by kernel_rfl) (by kernel_rfl) oi (ax (by kernel_rfl) (by kernel_rfl) mZ (cf _ _))))))) (fun p=>⟨p.1,p.2.1,p.2.2.1,p.2.2.2.1,p.2.2.2.2.1⟩) (by
 rintro w S cs ⟨nm,s,n,l,b,_⟩ h;obtain ⟨c9,q9,e9,⟨a9,h9⟩,h⟩:=aJ h;obtain ⟨c0,q0,e0,⟨a0,h0⟩,h⟩:=aJ h;obtain ⟨c1,q1,e1,⟨a1,h1⟩,h⟩:=aJ h;obtain ⟨c2,q2,e2,h2,h⟩:=aJ h;obtain ⟨c3,q3,e3,a3,h⟩:=aJ h;have a3:c3=[.bool b]:=a3;have h:q3=[]:=h;obtain ⟨cv,rfl,h2⟩:=da (r:=aL kI) rfl h2;exact ⟨cv,by rw [e9,e0,e1,e2,e3,a9,a0,a1,a3,h];rfl,h2,ci h0,ci h1,h9⟩)
theorem vk:cn Tryz.prog 57 H6:=dY (r:=bF mo (bF (dq .i64) (bF (dq .i64) (bF (aL (dq .i64)) (bF (dq .i64) nJ))))) (bL Tryz.underlying57 (by kernel_rfl) (ax (by kernel_rfl) (by kernel_rfl) gr (ax (by kernel_rfl) (by kernel_rfl) bN (ax (by kernel_rfl) (by kernel_rfl) bN (ax (by kernel_rfl) (by kernel_rfl) u5 (ax (by kernel_rfl) (by kernel_rfl) bN (cf _ _))))))) (fun p=>⟨p.1,p.2.1,p.2.2.1,p.2.2.2.1,p.2.2.2.2.1⟩) (by
 rintro w S cs ⟨nm,s,n,l,b,_⟩ h;obtain ⟨c9,q9,e9,⟨a9,h9⟩,h⟩:=aJ h;obtain ⟨c0,q0,e0,⟨a0,h0⟩,h⟩:=aJ h;obtain ⟨c1,q1,e1,⟨a1,h1⟩,h⟩:=aJ h;obtain ⟨c2,q2,e2,h2,h⟩:=aJ h;obtain ⟨c3,q3,e3,⟨a3,h3⟩,h⟩:=aJ h;have h:q3=[]:=h;obtain ⟨cv,rfl,h2⟩:=da (r:=aL (dq .i64)) rfl h2;exact ⟨cv,by rw [e9,e0,e1,e2,e3,a9,a0,a1,a3,h];rfl,h2,ci h0,ci h1,ci h3,h9⟩)
abbrev IK:=bF (aL mo) (bF (aL (dq .i64)) (bF (aL mo) (bF (aL dx) (bF (aL dx) (bF (aL H6) (bF (aL HH) (bF (aL Iq) (bF (aL kF) (bF (aL kM) nJ)))))))))
theorem wZ:cn Tryz.prog 32 IK:=bL Tryz.underlying32 (by kernel_rfl) (ax (by kernel_rfl) (by kernel_rfl) (bE Tryz.underlying22 (by kernel_rfl) (by decide) gr) (ax (by kernel_rfl) (by kernel_rfl) (bE Tryz.underlying23 (by kernel_rfl) (by decide) tA) (ax (by kernel_rfl) (by kernel_rfl) (bE Tryz.underlying22 (by kernel_rfl) (by decide) gr) (ax (by kernel_rfl) (by kernel_rfl) (bE Tryz.underlying24 (by kernel_rfl) (by decide) wU) (ax (by kernel_rfl) (by kernel_rfl) (bE Tryz.underlying25 (by kernel_rfl) (by decide) vC) (ax (by kernel_rfl) (by kernel_rfl) (bE Tryz.underlying26 (by kernel_rfl) (by decide) vk) (ax (by kernel_rfl) (by kernel_rfl) (bE Tryz.underlying27 (by kernel_rfl) (by decide) tW) (ax (by kernel_rfl) (by kernel_rfl) (bE Tryz.underlying28 (by kernel_rfl) (by decide) xe) (ax (by kernel_rfl) (by kernel_rfl) (bE Tryz.underlying29 (by kernel_rfl) (by decide) zE) (ax (by kernel_rfl) (by kernel_rfl) (bE Tryz.underlying30 (by kernel_rfl) (by decide) td) (cf _ _)))))))))))
theorem zH {H:Type} {enc:TypeId × Value -> H} {w:World} {fuel:Nat} {cs:Array Value} {x:DataW H × List MemPlace} (h:DataW.trod enc Tryz.prog w 0 (fun _=>true) true fuel 32 cs.toList=some x) :
  ∃ (V:MV) (m:aF),cs=V.cells /\ uR w V m:=by
 obtain ⟨⟨attrs,inits,users,roles,stages,events,guards,miles,sods,order,_⟩,h⟩:=wZ H enc w fuel _ _ h;obtain ⟨c0,q0,e0,h0,h⟩:=aJ h;obtain ⟨c1,q1,e1,h1,h⟩:=aJ h;obtain ⟨c2,q2,e2,h2,h⟩:=aJ h;obtain ⟨c3,q3,e3,h3,h⟩:=aJ h;obtain ⟨c4,q4,e4,h4,h⟩:=aJ h;obtain ⟨c5,q5,e5,h5,h⟩:=aJ h;obtain ⟨c6,q6,e6,h6,h⟩:=aJ h;obtain ⟨c7,q7,e7,h7,h⟩:=aJ h;obtain ⟨c8,q8,e8,h8,h⟩:=aJ h;obtain ⟨c9,q9,e9,h9,h⟩:=aJ h;obtain rfl:q9=[]:=h;obtain ⟨v0,rfl,h0⟩:=da (r:=aL mo) rfl h0;obtain ⟨v1,rfl,h1⟩:=da (r:=aL (dq .i64)) rfl h1;obtain ⟨v2,rfl,h2⟩:=da (r:=aL mo) rfl h2;obtain ⟨v3,rfl,h3⟩:=da (r:=aL dx) rfl h3;obtain ⟨v4,rfl,h4⟩:=da (r:=aL dx) rfl h4;obtain ⟨v5,rfl,h5⟩:=da (r:=aL H6) rfl h5;obtain ⟨v6,rfl,h6⟩:=da (r:=aL HH) rfl h6;obtain ⟨v7,rfl,h7⟩:=da (r:=aL Iq) rfl h7;obtain ⟨v8,rfl,h8⟩:=da (r:=aL kF) rfl h8;obtain ⟨v9,rfl,h9⟩:=da (r:=aL kM) rfl h9;refine ⟨⟨v0,v1,v2,v3,v4,v5,v6,v7,v8,v9⟩,⟨attrs,inits,users,roles,stages,events,guards,miles,sods,order⟩,?_,⟨h0,h1,h2,h3,h4,h5,h6,h7,h8,h9⟩⟩;apply Array.ext';rw [e0,e1,e2,e3,e4,e5,e6,e7,e8,e9];rfl
end
section
def mh {α:Type} (r:eM α) (f:α -> List AV):Prop:=∀ (w:World) (S:Nat -> Prop) (cs:List Value) (x:α),r.at_ w S cs x -> (f x).length=r.size /\ ∀ (j:Nat) (u:Value) (av:AV),cs[j]? = some u -> (f x)[j]? = some av -> RT w S u av /\ u.oneCell'=true
theorem mh.slice {α:Type} {r:eM α} {f:α -> List AV} (h:mh r f) {w:World} {S:Nat -> Prop} {v:Value} {l:List α} (hv:(aL r).one w S v l):RT w S v (.sl r.size (l.map f)):=by
 obtain ⟨A,c,rfl,h1,h2⟩:=dZ hv;by_cases h0:0<l.length
 .obtain ⟨b,o,rfl,hb,hrow⟩:=eh hv h0
  classical
  let cs:Nat -> List Value:=fun i=>if hi:i<l.length then (hrow i hi).choose else []
  have hcs:∀ i (hi:i<l.length),(∀ (j:Nat) (u:Value),(cs i)[j]? = some u -> w.cell? ⟨b,o+i * r.size+j,none⟩=some u) /\ r.at_ w S (cs i) l[i]:=fun i hi=>by
   have:=(hrow i hi).choose_spec;simpa [cs,hi] using this
  have key:∀ (i j:Nat) (row:List AV) (av:AV),(l.map f)[i]? = some row -> row[j]? = some av -> ∃ hi:i<l.length,(cs i)[j]? = some ((cs i).getD j undef) /\ RT w S ((cs i).getD j undef) av /\ ((cs i).getD j undef).oneCell'=true:=fun i j row av h3 h4=>by
   have hi:i<l.length:=by
    have:=(IV.1 h3).1;simpa using this
   have hf:row=f l[i]:=by
    rw [IW,IU hi] at h3;exact (Km h3).symm
   subst hf;obtain ⟨h5,h6⟩:=h w S (cs i) l[i] (hcs i hi).2
   have hj:j<(cs i).length:=by
    rw [r.len (hcs i hi).2,<- h5];exact (IV.1 h4).1
   have e:(cs i)[j]? = some ((cs i).getD j undef):=by
    rw [JB,IU hj];rfl
   exact ⟨hi,e,h6 j _ av e h4⟩
  refine .sl _ _ c r.size _ b o (fun i j=>(cs i).getD j undef) (by simp) h1 h2 (fun _=>⟨rfl,hb⟩) (fun row hr=>?_) (fun _ i j row av h3 h4=>?_) (fun i j row av h3 h4=>(key i j row av h3 h4).elim fun _ h=>h.2.2) (fun i j row av h3 h4=>(key i j row av h3 h4).elim fun _ h=>h.2.1)
  .obtain ⟨i,hi,rfl⟩:=Jw hr;have hi:i<l.length:=(by simpa using hi);simp only [List.getElem_map];exact (h w S (cs i) l[i] (hcs i hi).2).1
  .obtain ⟨hi,h5,_⟩:=key i j row av h3 h4;exact (hcs i hi).1 j _ h5
 .have:l=[]:=J5.1 (by omega);subst this;exact .sl A 0 c r.size [] 0 0 (fun _ _=>undef) rfl h1 h2 (fun h=>by omega) (by simp) (fun h=>by omega) (by simp) (by simp)
theorem ec {α:Type} {r:eM α} {f:α -> List AV} (g:α -> List Value) (hg:∀ w S cs x,r.at_ w S cs x -> cs=g x) (hs:∀ x,(g x).length=r.size) (ho:∀ x u,u ∈ g x -> u.oneCell'=true) (hf:∀ x,f x=(g x).map .c):mh r f:=fun w S cs x h=>by
 obtain rfl:=hg w S cs x h;rw [hf];refine ⟨by simp [hs],fun j u av h1 h2=>?_⟩;rw [IW,h1] at h2;cases h2;exact ⟨.c u,ho x u (p0 h1)⟩
theorem so:mh mo (fun s=>[eS s]):=ec (fun s=>[.string s]) (fun w S cs x h=>h.1) (fun x=>rfl) (fun x u h=>by simp at h;subst h;rfl) (fun x=>rfl)
theorem rK:mh (dq .i64) (fun n=>[eI n]):=ec (fun n=>[.int .i64 n]) (fun w S cs x h=>h.1) (fun x=>rfl) (fun x u h=>by simp at h;subst h;rfl) (fun x=>rfl)
theorem wm:mh dx rh:=ec (fun p=>[.string p.1,.int .i64 p.2]) (fun w S cs x h=>h.1) (fun x=>rfl) (fun x u h=>by simp at h;rcases h with rfl | rfl<;>rfl) (fun x=>rfl)
theorem C2:mh kF rj:=ec (fun p=>[.int .i64 p.1,.int .i64 p.2]) (fun w S cs x h=>h.1) (fun x=>rfl) (fun x u h=>by simp at h;rcases h with rfl | rfl<;>rfl) (fun x=>rfl)
theorem Dd:mh kM dS:=ec (fun p=>[.bool p.1,.int .i64 p.2]) (fun w S cs x h=>h.1) (fun x=>rfl) (fun x u h=>by simp at h;rcases h with rfl | rfl<;>rfl) (fun x=>rfl)
theorem oS:mh kI cV:=ec az.cells (fun w S cs x h=>h.1) (fun x=>rfl) (fun x u h=>by simp [az.cells] at h;rcases h with rfl | rfl | rfl | rfl | rfl | rfl | rfl<;>rfl) (fun x=>rfl)
theorem lz {α:Type} {r:eM α} {w:World} {S:Nat -> Prop} {v:Value} {l:List α} (h:(aL r).one w S v l):v.oneCell'=true:=by
 obtain ⟨A,c,rfl,_⟩:=dZ h;rfl
theorem Df:mh HH xL:=fun w S cs x ⟨cv,h1,h2,_⟩=>by
 subst h1;refine ⟨rfl,fun j u av h3 h4=>?_⟩
 match j with
 | 0=>simp at h3 h4;subst h3;subst h4;exact ⟨.c _,rfl⟩
 | 1=>simp at h3 h4;subst h3;subst h4;exact ⟨.c _,rfl⟩
 | 2=>simp at h3 h4;subst h3;subst h4;exact ⟨oS.slice h2,lz h2⟩
 | j+3=>simp at h3
theorem DM:mh Iq ri:=fun w S cs x ⟨cv,h1,h2,_⟩=>by
 subst h1;refine ⟨rfl,fun j u av h3 h4=>?_⟩
 match j with
 | 0=>simp at h3 h4;subst h3;subst h4;exact ⟨.c _,rfl⟩
 | 1=>simp at h3 h4;subst h3;subst h4;exact ⟨.c _,rfl⟩
 | 2=>simp at h3 h4;subst h3;subst h4;exact ⟨.c _,rfl⟩
 | 3=>simp at h3 h4;subst h3;subst h4;exact ⟨oS.slice h2,lz h2⟩
 | 4=>simp at h3 h4;subst h3;subst h4;exact ⟨.c _,rfl⟩
 | j+5=>simp at h3
theorem Dq:mh H6 mt:=fun w S cs x ⟨cv,h1,h2,_⟩=>by
 subst h1;refine ⟨rfl,fun j u av h3 h4=>?_⟩
 match j with
 | 0=>simp at h3 h4;subst h3;subst h4;exact ⟨.c _,rfl⟩
 | 1=>simp at h3 h4;subst h3;subst h4;exact ⟨.c _,rfl⟩
 | 2=>simp at h3 h4;subst h3;subst h4;exact ⟨.c _,rfl⟩
 | 3=>simp at h3 h4;subst h3;subst h4;exact ⟨rK.slice h2,lz h2⟩
 | 4=>simp at h3 h4;subst h3;subst h4;exact ⟨.c _,rfl⟩
 | j+5=>simp at h3
theorem F9 {w:World} {V:MV} {m:aF} (h:uR w V m):RT w (fun b=>b<w.heap.size) (.agg V.cells) (.agg (am m)):=by
 refine .agg _ _ rfl fun j u av h1 h2=>?_
 match j with
 | 0=>simp [MV.cells] at h1 h2;subst h1;subst h2;exact so.slice h.attrs
 | 1=>simp [MV.cells] at h1 h2;subst h1;subst h2;exact rK.slice h.inits
 | 2=>simp [MV.cells] at h1 h2;subst h1;subst h2;exact so.slice h.users
 | 3=>simp [MV.cells] at h1 h2;subst h1;subst h2;exact wm.slice h.roles
 | 4=>simp [MV.cells] at h1 h2;subst h1;subst h2;exact wm.slice h.stages
 | 5=>simp [MV.cells] at h1 h2;subst h1;subst h2;exact Dq.slice h.events
 | 6=>simp [MV.cells] at h1 h2;subst h1;subst h2;exact Df.slice h.guards
 | 7=>simp [MV.cells] at h1 h2;subst h1;subst h2;exact DM.slice h.miles
 | 8=>simp [MV.cells] at h1 h2;subst h1;subst h2;exact C2.slice h.sods
 | 9=>simp [MV.cells] at h1 h2;subst h1;subst h2;exact Dd.slice h.order
 | j+10=>simp at h2
theorem dc {α:Type} {r:eM α} {w:World} {S:Nat -> Prop} {v:Value} {l:List α} {Q:α -> Prop} (h:(aL r).one w S v l) (hq:∀ cs x,r.at_ w S cs x -> Q x):∀ x ∈ l,Q x:=fun x hx=>by
 obtain ⟨i,hi,rfl⟩:=Jw hx;obtain ⟨A,c,rfl,_⟩:=dZ h;obtain ⟨b,o,rfl,_,hrow⟩:=eh h (by omega);obtain ⟨cs,_,h2⟩:=hrow i hi;exact hq cs _ h2
theorem xp {w:World} {V:MV} {m:aF} (h:uR w V m):nF m:=
 ⟨dc h.guards fun cs x ⟨cv,_,h2,_⟩=>dc h2 fun cs y h3=>h3.2,dc h.miles fun cs x ⟨cv,_,h2,_⟩=>dc h2 fun cs y h3=>h3.2⟩
theorem Cd {w:World} {V:MV} {m:aF} (h:uR w V m):∀ p ∈ m.stages,aA p.2:=dc h.stages fun cs x h2=>h2.2.2
end
section
open Go.ChangeShapes Go.WideShapes Go.ChangeAt Go.RowKit
theorem x5 {w:World} {V:MV} {m:aF} (h:uR w V m):∀ p ∈ m.roles,aA p.2:=dc h.roles fun cs x h2=>h2.2.2
theorem xR {w:World} {V:MV} {m:aF} (h:uR w V m):∀ x ∈ m.inits,aA x:=dc h.inits fun cs x h2=>ci h2.2
theorem yO {w:World} {V:MV} {m:aF} (h:uR w V m):∀ e ∈ m.events,aA e.times:=dc h.events fun cs x ⟨cv,_,h2⟩=>h2.2.2.2.1
end
end
end Go.Proofs.YtiaiihjmmfakdaaGreat
