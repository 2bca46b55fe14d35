/-
  Parts of the proof: Qtp25, Qtp26, Qtp27, Qtp28, Qtp29, Qtp30, Qtp31.
-/
import Derived.Test.YtiaiihjmmfakdaaGreatDoorQtq7
import Derived.Test.YtiaiihjmmfakdaaGreatDoorTie
import Derived.Test.YtiaiihjmmfakdaaGreatDoorCards
import Derived.LaidMore
import Derived.OpenShut
import Derived.Stop.Joined
import Derived.SevenTiedAt
set_option linter.unusedVariables false
set_option linter.unusedSimpArgs false
set_option linter.defProp false
set_option maxRecDepth 100000
set_option maxHeartbeats 16000000
namespace Go.Proofs.YtiaiihjmmfakdaaGreatDoor
open Go.RowKit
section
section
deriving instance DecidableEq for Nd
theorem sX (a b:Nd) (h1:a.z.cls.length<=1000000) (h2:a.z.gaps.length<=1000000) (h3:a.did.length<=1000000) (h4:a.cnt.length<=1000000):ax Tryz.prog 88 [.agg (fG a),.agg (fG b)] (val (.bool (decide (a=b)))):=by
 refine aa ah Tryz.func88 rfl (by decide) Tryz.ntmps88 Tryz.results88 rfl (aH _) ?_;obtain ⟨t,ht,hZ⟩:=ki (zx a.z b.z h1 h2);have hD:=u3 a.did b.did h3;have hC:=u3 a.cnt b.cnt h4
 have e:decide (a=b)=(t && ((a.opn == b.opn) && ((a.don == b.don) && (decide (a.did=b.did) && decide (a.cnt=b.cnt))))):=by
  obtain ⟨az,ao,ad,ai,ac⟩:=a;obtain ⟨bz,bo,bd,bi,bc⟩:=b;rw [O7];simp only [NW,NU,O2,Nd.mk.injEq];rw [ht]
 rw [e]
 cases t with
 | false=>(repeat' (first | refine gf @Os ?_ | decide | refine sp ?_ ?_<;>intro _ | refine cA hZ ?_|fail))
 | true=>
  cases h5:a.opn == b.opn with
  | false=>(repeat' (first | refine gf (kf h5 (kf @Os @Oq)) ?_ | decide | refine sp ?_ ?_<;>intro _ | refine cA hZ ?_|fail))
  | true=>
   cases h6:a.don == b.don with
   | false=>(repeat' (first | refine gf (kf h5 (kf h6 (kf @Os @Oq))) ?_ | decide | refine sp ?_ ?_<;>intro _ | refine cA hZ ?_|fail))
   | true=>
    cases h7:decide (a.did=b.did) with
    | false=>
     rw [h7] at hD
     repeat' first|refine gf (kf h5 (kf h6 (kf @Os @Oq))) ?_|decide|refine sp ?_ ?_<;>intro _|refine cA hZ ?_|refine cA hD ?_|fail
    | true=>
     rw [h7] at hD
     cases h8:decide (a.cnt=b.cnt) with
     | false=>
      rw [h8] at hC
      repeat' first|refine gf (kf h5 (kf h6 (kf @Os @Oq))) ?_|decide|refine sp ?_ ?_<;>intro _|refine cA hZ ?_|refine cA hD ?_|refine cA hC ?_|fail
     | true=>
      rw [h8] at hC
      repeat' first|refine gf (kf h5 (kf h6 (kf @Os @Oq))) ?_|decide|refine sp ?_ ?_<;>intro _|refine cA hZ ?_|refine cA hD ?_|refine cA hC ?_|fail
structure Sn where
 ev:Int
 us:Int
 nd:Nd
deriving DecidableEq
abbrev rK (x:Sn):List AV:=[eI x.ev,eI x.us,.sl 2 (x.nd.z.cls.map cC),sI x.nd.z.gaps,eI x.nd.opn,eI x.nd.don,sI x.nd.did,sI x.nd.cnt]
structure rP (N:Nat) (n:Nd):Prop where
 z:ly N n.z
 did:n.did.length<=10
 cnt:n.cnt.length<=10
 opn:aB n.opn
 don:aB n.don
 dok:∀ x ∈ n.did,aB x
theorem G5 (l:List Sn) (x:Sn) (hll:l.length<=2700000000000) {N:Nat} (hN:N<=1000000) (hl:∀ y ∈ l,rP N y.nd):ax Tryz.prog 86 [.sl 8 (l.map rK),.agg (rK x)] (val (.bool (decide (x ∈ l)))):=by
 refine aa ah Tryz.func86 rfl (by decide) Tryz.ntmps86 Tryz.results86 rfl (aH _) ?_
 repeat' first|refine go ?_|decide|refine sp ?_ ?_<;>intro _
 refine ae (fun st=>∃ k:Nat,k<=l.length /\ x ∉ l.take k /\ st=⟨40,[(0,.sl 8 (l.map rK)),(3,.op 0 0 0),(5,eI (k:Int))],[(0,some (.box 99 (rK x)))],1⟩) (fun st=>l.length - aq st 5) ⟨_,wC,0,Nv _,by simp,rfl⟩ ?_;rintro _ ⟨k,hk,hI,rfl⟩;by_cases hlt:k<l.length
 .obtain ⟨y,hy⟩:∃ y,y=l[k]:=⟨_,rfl⟩;have hrow:(l.map rK)[k]?.getD []=rK y:=by rw [hy];simp [hlt]
  have hB:=hl y (hy ▸ Nt hlt);have b1:=hB.z.cl;have b2:=hB.z.ga;have b3:=hB.did;have b4:=hB.cnt;have hS:=sX y.nd x.nd (by omega) (by omega) (by omega) (by omega);have hm:x ∈ l.take (k+1) ↔ x ∈ l.take k \/ x=y:=by rw [Ns hlt,NK,NR,hy]
  have q2:List.drop 2 (rK y)=fG y.nd:=rfl;have next:¬ y=x -> x ∉ l.take (k+1):=fun hne h=>(hm.1 h).elim hI fun e=>hne e.symm
  cases h5:y.ev == x.ev with
  | false=>
   have hne:¬ y=x:=fun e=>by rw [e] at h5;simp at h5
   repeat' first|refine gf (kf @hrow (kf @hlt h5)) ?_|decide|refine sp ?_ ?_<;>intro _
   all_goals exact rI wC ⟨k+1,by omega,next hne,rfl⟩
  | true=>
   cases h6:y.us == x.us with
   | false=>
    have hne:¬ y=x:=fun e=>by rw [e] at h6;simp at h6
    repeat' first|refine gf (kf @hrow (kf @hlt (kf h5 h6))) ?_|decide|refine sp ?_ ?_<;>intro _
    all_goals exact rI wC ⟨k+1,by omega,next hne,rfl⟩
   | true=>
    cases h7:decide (y.nd=x.nd) with
    | false=>
     rw [h7] at hS;have hne:¬ y=x:=fun e=>by rw [e] at h7;simp at h7
     repeat' first|refine gf (kf @hrow (kf @hlt (kf h5 h6))) ?_|decide|refine sp ?_ ?_<;>intro _|refine cA hS ?_|fail
     all_goals exact rI wC ⟨k+1,by omega,next hne,rfl⟩
    | true=>
     rw [h7] at hS
     have he:x=y:=by
      obtain ⟨e1,e2,e3⟩:=x;obtain ⟨f1,f2,f3⟩:=y;simp at h5 h6 h7;rw [h5,h6,h7]
     have hmem:x ∈ l:=by rw [he,hy];exact Nt hlt
     rw [NL hmem]
     repeat' first|refine gf (kf @hrow (kf @hlt (kf h5 h6))) ?_|decide|refine sp ?_ ?_<;>intro _|refine cA hS ?_|fail
     all_goals trace_state
 .obtain rfl:k=l.length:=by omega
  rw [NG] at hI;rw [NE hI]
  repeat' first|refine gf @hlt ?_|decide|refine sp ?_ ?_<;>intro _
def dQ (m:bb) (n:Nd) (e:Nat) (u:Int):Nd:=⟨n.z,n.opn,n.don,n.did.set e (cY (n.did.getD e 0) u),if 0<(m.events[e]?.map (·.times)).getD 0 then n.cnt.set e (n.cnt.getD e 0+1) else n.cnt⟩
theorem Ii (m:bb) (n:Nd) (e:Nat) (u:Int) (he:e<m.events.length) (hd:e<n.did.length) (hc:e<n.cnt.length) (hdl:n.did.length<=1000000) (hcl:n.cnt.length<=1000000) (hdo:aB (n.did.getD e 0)) (hco:-1000<=n.cnt.getD e 0 /\ n.cnt.getD e 0<=1000) (hu:0<=u /\ u<31) :
  ax Tryz.prog 84 [.agg (aQ m),.agg (fG n),eI (e:Int),eI u] ⟨.agg (fG (dQ m n e u)),[],0⟩:=by
 refine ax.still (R:=⟨.agg [.sl 2 (n.z.cls.map cC),sI n.z.gaps,eI n.opn,eI n.don,.osl 0,.osl 1],[(0,some (.row 3 1 ((dQ m n e u).did.map fun n=>[eI n]))),(1,some (.row 3 1 ((dQ m n e u).cnt.map fun n=>[eI n])))],2⟩) [0,1] ?_ (by simp [cG.frzs,cG.frz,af.gc,AV.frz,AV.frzL,bE,aE.frz,dQ]) (by simp [AV.lt,AV.ltL]);refine aa ah Tryz.func84 rfl (by decide) Tryz.ntmps84 Tryz.results84 rfl (jW (by simp [cr,aE.lt,AV.ltL,AV.lt]) (by simp [AV.lt,AV.ltL])) ?_;obtain ⟨x,hx⟩:∃ x,x=m.events[e]:=⟨_,rfl⟩;have hrx:(m.events.map Iu)[e]?.getD []=Iu x:=by rw [hx];simp [he]
 obtain ⟨d,hde⟩:∃ d,d=n.did.getD e 0:=⟨_,rfl⟩;obtain ⟨c,hce⟩:∃ c,c=n.cnt.getD e 0:=⟨_,rfl⟩;have hrd:(n.did.map fun n=>[eI n])[e]?.getD []=[eI d]:=by rw [hde];simp [List.getD,hd]
 have hrc:(n.cnt.map fun n=>[eI n])[e]?.getD []=[eI c]:=by rw [hce];simp [List.getD,hc]
 rw [<- hde] at hdo;rw [<- hce] at hco;have hP:=qR d u true hdo hu.1 hu.2;rw [ND rfl] at hP;have hsd:(n.did.map fun n=>[eI n]).set e [eI (cY d u)]=(dQ m n e u).did.map fun n=>[eI n]:=by rw [dQ,<- hde,Pw]
 have ht:(m.events[e]?.map (·.times)).getD 0=x.times:=by rw [hx];simp [he]
 have ec:IntKind.i64.wrap (c+1)=c+1:=ar (by omega) (by omega)
 repeat' first|refine ge (kf @hrd hd) ?_|decide|refine sp ?_ ?_<;>intro _
 refine ⟨rfl,⟨by omega,by omega⟩,?_⟩;refine aw hP ?_
 repeat' first|refine ge (kf @hrd (kf hd @hsd)) ?_|decide|refine sp ?_ ?_<;>intro _
 refine ⟨rfl,⟨by omega,by omega⟩,?_⟩;by_cases h0:0<x.times
 .have d0:decide (0<x.times)=true:=NL h0;have hsc:(n.cnt.map fun n=>[eI n]).set e [eI (c+1)]=(dQ m n e u).cnt.map fun n=>[eI n]:=by rw [dQ,ht,ND h0,<- hce,Pw]
  repeat' first|refine gf (kf @hrx (kf he (kf @hrc (kf hc (kf d0 (kf ec @hsc)))))) ?_|decide|refine sp ?_ ?_<;>intro _
  exact ⟨[4,6],by decide,rfl,by simp [cb,af.gc]⟩
 .have d0:decide (0<x.times)=false:=NE h0;have hsc:(dQ m n e u).cnt=n.cnt:=by rw [dQ,ht,Ny h0]
  rw [hsc]
  repeat' first|refine gf (kf @hrx (kf he (kf @hrc (kf hc d0)))) ?_|decide|refine sp ?_ ?_<;>intro _
  exact ⟨[4,6],by decide,rfl,by simp [cb,af.gc]⟩
theorem sq (n:Nd) (h1:n.did.length<=1000000) (h2:n.cnt.length<=1000000):ax Tryz.prog 38 [.agg (fG n)] ⟨.agg (il (bj n)),[],0⟩:=
 dn.tree (nH n h1 h2) (by simp [AV.lt,AV.ltL]) fun R hR=>by
  subst hR;exact ⟨[],by simp [cG.frzs,AV.lt,AV.ltL],.one (.agg ⟨.nil 1,.refl _,.refl _,.refl _,.refl _,trivial⟩)⟩
def fp (m:bb) (x:Bool × Int):List al:=if x.1=true then (if 0<=x.2 then ((m.miles[x.2.toNat]?).map (·.cond)).getD [] else []) else (if 0<=x.2 then ((m.guards[x.2.toNat]?).map (·.cond)).getD [] else [])
theorem Gj (m:bb) (xm:Bool) (xn:Int):ax Tryz.prog 129 [.agg (aQ m),.agg [eB xm,eI xn]] ⟨a7 (fp m (xm,xn)),[],0⟩:=by
 refine dn.tree (Post:=fun R=>∃ ids,(R.frzs ids).r.lt 0 /\ ns (R.frzs ids).r (a7 (fp m (xm,xn)))) ?_ (by simp [AV.lt,AV.ltL]) fun R h=>h;refine aM ah Tryz.func129 rfl (by decide) Tryz.ntmps129 Tryz.results129 rfl ?_;have hI:=fun n most=>dl n most;have rN:ns (.c (.slice none 0 0)) (a7 []):=.one (.one (.nil 7))
 cases xm with
 | true=>
  by_cases h0:0<=xn
  .obtain ⟨k,rfl⟩:∃ k:Nat,xn=(k:Int):=⟨xn.toNat,by omega⟩;by_cases hk:k<m.miles.length
   .obtain ⟨g,hg⟩:∃ g,g=m.miles[k]:=⟨_,rfl⟩;have hrg:(m.miles.map EM)[k]?.getD []=EM g:=by rw [hg];simp [hk]
    have e:fp m (true,(k:Int))=g.cond:=(by simp [fp,hk,hg]);have hIn:dx (k:Int) (m.miles.length:Int)=true:=by simp [dx];omega
    rw [e]
    repeat' first|refine gf (kf @hrg (kf hk @hIn)) ?_|decide|refine sp ?_ ?_<;>intro _|refine cA (hI _ _) ?_|fail
    all_goals first|exact pg (by simp [AV.ren]) (by simp [AV.lt]) rN|exact pg (by simp [AV.ren]) (by simp [AV.lt]) (.one (.one (.refl _)))
   .have e:fp m (true,(k:Int))=[]:=(by simp [fp,hk]);have hIn:dx (k:Int) (m.miles.length:Int)=false:=by simp [dx];omega
    rw [e]
    repeat' first|refine gf @hIn ?_|decide|refine sp ?_ ?_<;>intro _|refine cA (hI _ _) ?_|fail
    all_goals first|exact pg (by simp [AV.ren]) (by simp [AV.lt]) rN|exact pg (by simp [AV.ren]) (by simp [AV.lt]) (.one (.one (.refl _)))
  .have e:fp m (true,xn)=[]:=(by simp [fp,h0]);have hIn:dx xn (m.miles.length:Int)=false:=by simp [dx];omega
   rw [e]
   repeat' first|refine gf @hIn ?_|decide|refine sp ?_ ?_<;>intro _|refine cA (hI _ _) ?_|fail
   all_goals first|exact pg (by simp [AV.ren]) (by simp [AV.lt]) rN|exact pg (by simp [AV.ren]) (by simp [AV.lt]) (.one (.one (.refl _)))
 | false=>
  by_cases h0:0<=xn
  .obtain ⟨k,rfl⟩:∃ k:Nat,xn=(k:Int):=⟨xn.toNat,by omega⟩;by_cases hk:k<m.guards.length
   .obtain ⟨g,hg⟩:∃ g,g=m.guards[k]:=⟨_,rfl⟩;have hrg:(m.guards.map Ea)[k]?.getD []=Ea g:=by rw [hg];simp [hk]
    have e:fp m (false,(k:Int))=g.cond:=(by simp [fp,hk,hg]);have hIn:dx (k:Int) (m.guards.length:Int)=true:=by simp [dx];omega
    rw [e]
    repeat' first|refine gf (kf @hrg (kf hk @hIn)) ?_|decide|refine sp ?_ ?_<;>intro _|refine cA (hI _ _) ?_|fail
    all_goals first|exact pg (by simp [AV.ren]) (by simp [AV.lt]) rN|exact pg (by simp [AV.ren]) (by simp [AV.lt]) (.one (.one (.refl _)))
   .have e:fp m (false,(k:Int))=[]:=(by simp [fp,hk]);have hIn:dx (k:Int) (m.guards.length:Int)=false:=by simp [dx];omega
    rw [e]
    repeat' first|refine gf @hIn ?_|decide|refine sp ?_ ?_<;>intro _|refine cA (hI _ _) ?_|fail
    all_goals first|exact pg (by simp [AV.ren]) (by simp [AV.lt]) rN|exact pg (by simp [AV.ren]) (by simp [AV.lt]) (.one (.one (.refl _)))
  .have e:fp m (false,xn)=[]:=(by simp [fp,h0]);have hIn:dx xn (m.guards.length:Int)=false:=by simp [dx];omega
   rw [e]
   repeat' first|refine gf @hIn ?_|decide|refine sp ?_ ?_<;>intro _|refine cA (hI _ _) ?_|fail
   all_goals first|exact pg (by simp [AV.ren]) (by simp [AV.lt]) rN|exact pg (by simp [AV.ren]) (by simp [AV.lt]) (.one (.one (.refl _)))
def bF (m:bb):bb:={ m with guards:=m.guards.map fun g=>{ g with cond:=[FG] },miles:=m.miles.map fun g=>{ g with cond:=[FG] } }
abbrev Mv:List AV:=[.c (.slice none 0 0),.c (.slice none 0 0),.c (.slice none 0 0),.c (.slice none 0 0),.c (.slice none 0 0),.c (.slice none 0 0),.c (.slice none 0 0),.c (.slice none 0 0),.c (.slice none 0 0),.c (.slice none 0 0)]
theorem DN (m:bb) (hg:m.guards.length<=1000000) (hm:m.miles.length<=1000000):ax Tryz.prog 128 [.agg (aQ m)] ⟨.agg (aQ (bF m)),[],0⟩:=by
 refine ax.still (R:=⟨.agg [.sl 1 (m.attrs.map fun s=>[eS s]),sI m.inits,.sl 1 (m.users.map fun s=>[eS s]),.sl 2 (m.roles.map MQ),.sl 2 (m.stages.map MQ),.sl 5 (m.events.map Iu),.osl 0,.osl 1,.sl 2 (m.sods.map MZ),.sl 2 (m.order.map uK)],[(0,some (.row 78 3 ((bF m).guards.map Ea))),(1,some (.row 80 5 ((bF m).miles.map EM)))],2⟩) [0,1] ?_ (by simp [cG.frzs,cG.frz,af.gc,AV.frz,AV.frzL,bE,aE.frz,bF]) (by simp [AV.lt,AV.ltL]);refine aa ah Tryz.func128 rfl (by decide) Tryz.ntmps128 Tryz.results128 rfl (jW (by simp [cr,aE.lt,AV.ltL,AV.lt]) (by simp [AV.lt,AV.ltL])) ?_;have hT:a7 [FG]=.sl 7 [[eI 1,eI 0,eI 0,eI 0,eI 0,eI 0,eI 0]]:=rfl
 repeat' first|refine go ?_|decide|refine sp ?_ ?_<;>intro _
 refine ae (fun st=>∃ k:Nat,k<=m.guards.length /\ st=⟨52,[(1,.op 0 0 0),(2,.op 1 0 0),(3,.osl 2),(4,eI (k:Int))],[(0,some (.box 32 (aQ m))),(1,some (.box 32 Mv)),(2,some (.row 78 3 (((bF m).guards.take k).map Ea)))],3⟩) (fun st=>m.guards.length - aq st 4) ⟨_,((aR 3 78 3 (by simp only [ia,aj.get,aX,aj.put,↓reduceIte,reduceCtorEq,Nat.reduceLT,Nat.reduceEqDiff,Nat.reduceAdd,Nat.reduceLeDiff,eq_self,implies_true,NJ,N3])).trans (wS [0,1,2] @NJ)),0,Nv _,rfl⟩ ?_;rintro _ ⟨k,hk,rfl⟩;have hol:(bF m).guards.length=m.guards.length:=by simp [bF]
 by_cases hlt:k<m.guards.length
 .obtain ⟨g,hge⟩:∃ g,g=m.guards[k]:=⟨_,rfl⟩;have hrg:(m.guards.map Ea)[k]?.getD []=Ea g:=by rw [hge];simp [hlt]
  have et:((bF m).guards.take (k+1)).map Ea=((bF m).guards.take k).map Ea ++ [[eI g.stage,eI g.event,.sl 7 [[eI 1,eI 0,eI 0,eI 0,eI 0,eI 0,eI 0]]]]:=by
   rw [Ns (by omega)];simp [bF,hge]
  have htl:((bF m).guards.take k).length<=1000000:=by rw [NF];omega
  obtain ⟨O,hO⟩:∃ O,O=(bF m).guards.take k:=⟨_,rfl⟩;rw [<- hO] at et htl ⊢
  repeat' first|refine gf (kf @hrg @hlt) ?_|decide|refine sp ?_ ?_<;>intro _|(with_reducible apply And.intro)
  all_goals first
   | rfl
   | omega
   | exact rI (wS [0,1,6] (kf et hO)) ⟨k+1,by omega,rfl⟩
 .obtain rfl:k=m.guards.length:=by omega
  have ha:(bF m).guards.take m.guards.length=(bF m).guards:=NT (by omega);rw [ha]
  repeat' first|refine gf @hlt ?_|decide|refine sp ?_ ?_<;>intro _
  refine ae (fun st=>∃ k:Nat,k<=m.miles.length /\ st=⟨52,[(1,.op 0 0 0),(2,.op 1 0 0),(3,.osl 2),(6,.osl 3),(7,eI (k:Int))],[(0,some (.box 32 (aQ m))),(1,some (.box 32 Mv)),(2,some (.row 78 3 ((bF m).guards.map Ea))),(3,some (.row 80 5 (((bF m).miles.take k).map EM)))],4⟩) (fun st=>m.miles.length - aq st 7) ⟨_,((aR 6 80 5 (by simp only [ia,aj.get,aX,aj.put,↓reduceIte,reduceCtorEq,Nat.reduceLT,Nat.reduceEqDiff,Nat.reduceAdd,Nat.reduceLeDiff,eq_self,implies_true,NJ,N3])).trans (wS [0,1,2,3] @NJ)),0,Nv _,rfl⟩ ?_;rintro _ ⟨k,hk,rfl⟩;have hol2:(bF m).miles.length=m.miles.length:=by simp [bF]
  by_cases hlt2:k<m.miles.length
  .obtain ⟨g,hge⟩:∃ g,g=m.miles[k]:=⟨_,rfl⟩;have hrg:(m.miles.map EM)[k]?.getD []=EM g:=by rw [hge];simp [hlt2]
   have et:((bF m).miles.take (k+1)).map EM=((bF m).miles.take k).map EM ++ [[eS g.name,eI g.stage,eI g.event,.sl 7 [[eI 1,eI 0,eI 0,eI 0,eI 0,eI 0,eI 0]],eB g.final]]:=by
    rw [Ns (by omega)];simp [bF,hge]
   have htl:((bF m).miles.take k).length<=1000000:=by rw [NF];omega
   obtain ⟨O,hO⟩:∃ O,O=(bF m).miles.take k:=⟨_,rfl⟩;rw [<- hO] at et htl ⊢
   repeat' first|refine gf (kf @hrg @hlt2) ?_|decide|refine sp ?_ ?_<;>intro _|(with_reducible apply And.intro)
   all_goals first
    | rfl
    | omega
    | exact rI (wS [0,1,2,7] (kf et hO)) ⟨k+1,by omega,rfl⟩
  .obtain rfl:k=m.miles.length:=by omega
   have ha2:(bF m).miles.take m.miles.length=(bF m).miles:=NT (by omega);rw [ha2]
   repeat' first|refine gf @hlt2 ?_|decide|refine sp ?_ ?_<;>intro _
   all_goals exact ⟨[2,3],by decide,rfl,by simp [cb,af.gc]⟩
theorem En {m:bb} (h:rL m):rL (bF m):=by
 refine ⟨?_,fun g hg=>?_,fun g hg=>?_,h.events⟩
 .have:=h.sizes;simpa [t6,bF] using this
 .obtain ⟨x,_,rfl⟩:=NC.1 hg;simp
 .obtain ⟨x,_,rfl⟩:=NC.1 hg;simp
theorem FR {m:bb} (h:rL m) (x:Bool × Int):(fp m x).length<=80:=by
 unfold fp;split<;>split
 .cases he:m.miles[x.2.toNat]? with
  | none=>simp
  | some g=>simpa using h.miles g (Nr he)
 .simp
 .cases he:m.guards[x.2.toNat]? with
  | none=>simp
  | some g=>simpa using h.guards g (Nr he)
 .simp
noncomputable def qO (m:bb) (c:List Int) (z:Zn) (event:Int) (s:St) (x:Bool × Int):St:=if (mA (bZ (fp m x) z c s) && fb (bF m) s x event)=true then dD m s x else s
noncomputable def jR (m:bb) (c:List Int) (z:Zn) (event:Int) (k:Nat) (s:St):St:=(m.order.take k).foldl (qO m c z event) s
noncomputable def o0 (m:bb) (c:List Int) (n:Nd) (event:Int):Nd:=⟨n.z,(jR m c n.z event m.order.length (bj n)).opn,(jR m c n.z event m.order.length (bj n)).don,n.did,n.cnt⟩
theorem o5 {m:bb} {c:List Int} {z:Zn} {event:Int} {k:Nat} (s:St) (hk:k<m.order.length):jR m c z event (k+1) s=qO m c z event (jR m c z event k s) m.order[k]:=by
 unfold jR;rw [Ns hk,OI];rfl
theorem om (m:bb) (c:List Int) (z:Zn) (event:Int) (s:St) (h:ci s.opn /\ ci s.don):∀ k,k<=m.order.length -> ci (jR m c z event k s).opn /\ ci (jR m c z event k s).don
 | 0,_=>by simpa [jR] using h
 | k+1,hk=>by
  rw [o5 s (by omega)];have ih:=om m c z event s h k (by omega);unfold qO;split
  .exact zR m _ _ ih
  .exact ih
theorem DL (m:bb) (c:List Int) (n:Nd) (event:Int) (hf:rL m) (hp:∀ p ∈ m.stages,aB p.2) (hc:c.length<=1000) {N:Nat} (hN:N<=1000) (hB:rP N n) (ho:ci n.opn) (hd:ci n.don):ax Tryz.prog 85 [.agg (aQ m),sI c,.agg (fG n),eI event] ⟨.agg (fG (o0 m c n event)),[],0⟩:=by
 obtain ⟨hgl,hml,hsl,hel,hal,hul,hrl,hsol,hol,hil⟩:=id hf.sizes;have hcl:=hB.z.cl;have hdl:=hB.did;have hcn:=hB.cnt;have hSt:=sq n (by omega) (by omega);have hFr:=DN m (by omega) (by omega);refine aa ah Tryz.func85 rfl (by decide) Tryz.ntmps85 Tryz.results85 rfl (⟨fun id o h=>(by cases h),⟨trivial,trivial,trivial,trivial,trivial,trivial,trivial⟩⟩) ?_
 repeat' first|refine gq ?_|decide|refine sp ?_ ?_<;>intro _|refine cA hSt ?_|refine cA hFr ?_|fail
 refine ae (fun st=>∃ (k:Nat) (s:St),k<=m.order.length /\ s=jR m c n.z event k (bj n) /\ st=⟨61,[(1,sI c),(3,eI event),(4,.op 0 0 0),(6,.op 1 0 0),(8,.op 2 0 0),(9,.op 3 0 0),(10,.op 4 0 0),(11,eI (k:Int))],[(0,some (.box 32 (aQ m))),(1,some (.box 62 (fG n))),(2,some (.box 62 [.c (.slice none 0 0),.c (.slice none 0 0),eI 0,eI 0,.c (.slice none 0 0),.c (.slice none 0 0)])),(3,some (.box 106 (il s))),(4,some (.box 32 (aQ (bF m))))],5⟩) (fun st=>m.order.length - aq st 11) ⟨_,wC,0,bj n,Nv _,rfl,rfl⟩ ?_;rintro _ ⟨k,s,hk,hs,rfl⟩;have h31:=om m c n.z event (bj n) ⟨ho,hd⟩ k hk;rw [<- hs] at h31;by_cases hlt:k<m.order.length
 .have hst:=o5 (c:=c) (z:=n.z) (event:=event) (bj n) hlt;rw [<- hs] at hst;obtain ⟨x,hx⟩:∃ x,x=m.order[k]:=⟨_,rfl⟩;have hrx:(m.order.map uK)[k]?.getD []=uK x:=by rw [hx];simp [hlt]
  rw [<- hx] at hst;obtain ⟨xm,xn⟩:=x;have hC:=Gj m xm xn;have hcnl:=FR hf (xm,xn);have hH:=sY (fp m (xm,xn)) n.z c s (by omega) (by omega) hc hB.z.at_ (cF h31.1) (cF h31.2);have hF:=sE (bF m) s xm xn event (En hf) (cF h31.1) (cF h31.2);have hFi:=wY m s xm xn hf hp h31.1 h31.2;obtain ⟨b,hb⟩:∃ b,b=mA (bZ (fp m (xm,xn)) n.z c s):=⟨_,rfl⟩;obtain ⟨e,he⟩:∃ e,e=xv (bZ (fp m (xm,xn)) n.z c s):=⟨_,rfl⟩;have ht:qO m c n.z event s (xm,xn)=if (b && fb (bF m) s (xm,xn) event)=true then dD m s (xm,xn) else s:=by rw [qO,<- hb]
  rw [ht] at hst;rw [<- hb,<- he] at hH;obtain ⟨f,hff⟩:∃ f,f=fb (bF m) s (xm,xn) event:=⟨_,rfl⟩;rw [<- hff] at hF hst
  repeat' first|refine ge (kf @hrx @hlt) ?_|decide|refine sp ?_ ?_<;>intro _
  refine aD [] [0,1,3,4,5,6] (.exec 2 (.exec 7 (.take 8 (.take 9 (.take 10 (.exec 11 (.exec 12 .done))))))) (by kernel_rfl) (by simp [af.gc]) ?_
  cases b with
  | false=>
   rw [Os,Ny (by simp)] at hst
   repeat' first|refine gf (kf @hrx @hlt) ?_|decide|refine sp ?_ ?_<;>intro _|refine cA hC ?_|refine cA hH ?_|fail
   all_goals exact rI wC ⟨k+1,s,by omega,hst.symm,rfl⟩
  | true=>
   cases f with
   | false=>
    rw [Oq,Ny (by simp)] at hst
    repeat' first|refine gf (kf @hrx @hlt) ?_|decide|refine sp ?_ ?_<;>intro _|refine cA hC ?_|refine cA hH ?_|refine cA hF ?_|fail
    all_goals exact rI wC ⟨k+1,s,by omega,hst.symm,rfl⟩
   | true=>
    rw [Oq,ND rfl] at hst
    repeat' first|refine gf (kf @hrx @hlt) ?_|decide|refine sp ?_ ?_<;>intro _|refine cA hC ?_|refine cA hH ?_|refine cA hF ?_|refine cA hFi ?_|fail
    all_goals exact rI wC ⟨k+1,dD m s (xm,xn),by omega,hst.symm,rfl⟩
 .obtain rfl:k=m.order.length:=by omega
  have hn:o0 m c n event=⟨n.z,s.opn,s.don,n.did,n.cnt⟩:=by rw [o0,<- hs]
  rw [hn]
  repeat' first|refine gf @hlt ?_|decide|refine sp ?_ ?_<;>intro _
  all_goals exact tl rfl
structure gE (m:bb) (c:List Int):Prop where
 fit:rL m
 ck:Du m
 clen:c.length<=9
 cok:∀ x ∈ c,aB x
 stg:∀ p ∈ m.stages,aB p.2
 rol:∀ p ∈ m.roles,aB p.2
noncomputable def fQ (m:bb) (c:List Int) (n:Nd) (e:Nat) (u:Int) (zs:List Zn):List Sn:=zs.map fun z=>⟨(e:Int),u,o0 m c { dQ m n e u with z:=z } (e:Int)⟩
noncomputable def oV (m:bb) (e:Nat):List Int:=(m.events[e]?.map (·.sets)).getD []
noncomputable def cI (m:bb) (n:Nd) (e:Nat):List Zn:=rD n.z (oV m e) (dX m n.cnt m.events.length) (oV m e).length
noncomputable def lW (m:bb) (c:List Int) (n:Nd) (e:Nat):List Sn:=(eW m (bj n) (e:Int)).flatMap fun u=>fQ m c n e u (cI m n e)
noncomputable def cM (m:bb) (c:List Int) (n:Nd) (k:Nat):List Sn:=(List.range k).flatMap (lW m c n)
open Classical in
noncomputable def i6 (m:bb) (c:List Int) (n:Nd):List Sn:=if zP m c n then bM (cM m c n m.events.length) ++ (if yY m (bj n)=true then [] else [⟨-1,-1,n⟩]) else []
end
section
def nt (l:List fr):Nat -> Nat
 | 0=>0
 | a+1=>nt l a+b8 l (a:Int)
theorem so (x:fr) (l:List fr):∀ k,nt (x :: l) k=nt [x] k+nt l k
 | 0=>rfl
 | k+1=>by
  have h:b8 (x :: l) (k:Int)=b8 [x] (k:Int)+b8 l (k:Int):=by
   unfold b8;rw [List.countP_cons,List.countP_cons];simp;omega
  rw [nt,nt,nt,so x l k,h];omega
theorem vC {x:fr} {a:Nat} (h:bk x.attrs (a:Int)=true):∀ k,a<k -> 1<=nt [x] k
 | 0,hk=>absurd hk (by omega)
 | k+1,hk=>by
  rw [nt];by_cases e:a=k
  .have:b8 [x] (k:Int)=1:=by rw [<- e];simp [b8,h]
   omega
  .have:=vC h k (by omega);omega
theorem Dv {x:fr} (h:0<x.attrs /\ x.attrs<2147483648):∃ a:Nat,a<31 /\ bk x.attrs (a:Int)=true:=by
 have hne:aN x ≠ 0:=by unfold aN;omega
 obtain ⟨i,hi⟩:∃ i,(aN x).testBit i=true:=Classical.byContradiction fun hn=>hne (Nat.eq_of_testBit_eq fun i=>by
  rw [Nat.zero_testBit]
  cases h2:(aN x).testBit i with
  | false=>rfl
  | true=>exact absurd ⟨i,h2⟩ hn)
 have h31:i<31:=by
  refine Classical.byContradiction fun hn=>?_;have h1:aN x<2 ^ i:=NH (by unfold aN;omega:aN x<2 ^ 31) (Od (by omega) (by omega));rw [O0 h1] at hi;cases hi
 exact ⟨i,h31,by rw [gM ⟨by omega,h.2⟩ h31];exact hi⟩
theorem sf:∀ l:List fr,(∀ x ∈ l,(0<=x.attrs /\ x.attrs<2147483648) /\ (0<x.attrs \/ 0<=x.const)) -> l.length<=nt l 31+eC l
 | [],_=>Nv _
 | x :: l,h=>by
  have ih:=sf l fun y hy=>h y (N7 _ hy);obtain ⟨h1,h2⟩:=h x Ob
  have hn:eC (x :: l)=eC l+(if x.const = -1 then 0 else 1):=by
   unfold eC;rw [List.countP_cons];by_cases e:x.const = -1<;>simp [e]
  rw [so,hn,NZ];by_cases e:x.const = -1
  .obtain ⟨a,ha,hb⟩:=Dv (x:=x) ⟨by omega,h1.2⟩;have:=vC hb 31 ha;rw [ND e];omega
  .rw [Ny e];omega
theorem Hx {l:List fr} {n:Nat} (h:∀ a:Nat,a<31 -> (b8 l (a:Int):Int)=if (a:Int)<(n:Int) then 1 else 0):∀ k,k<=31 -> nt l k<=n
 | 0,_=>Nv _
 | k+1,hk=>by
  have key:∀ j,j<=31 -> nt l j<=min j n:=fun j=>by
   induction j with
   | zero=>intro _;simp [nt]
   | succ j ih=>
    intro hj;have h1:=ih (by omega);have h2:=h j (by omega);rw [nt];split at h2<;>omega
  have:=key (k+1) hk;omega
theorem yL {l:List fr} {n:Nat} {m:Int} (hn:n<=31) (hat:∀ x ∈ l,x.attrs<9223372036854775808) (h:pm l (n:Int) m):(l.length:Int)<=n+m:=by
 have hd:=(p3 l n m hn hat).2 h;rw [NU,NW] at hd;obtain ⟨hb,hm⟩:=hd;obtain ⟨hA,hC⟩:=(zw l (n:Int)).1 hb
 have h1:=sf l fun x hx=>by
  obtain ⟨i,hi,rfl⟩:=NV hx;obtain ⟨k1,k2,_⟩:=(lO _ _).1 (hC i hi);exact ⟨k1,k2⟩
 have h2:=Hx ((Ai l (n:Int) 31).1 hA) 31 (Nz _);omega
theorem Le (m:bb) (c:List Int) {k:Nat} (hk:k<m.events.length) (h0:0<=m.events[k].times):Gq m c k<=m.events[k].times * (m.events[k].sets.length:Int):=by
 unfold Gq;have hw:=vW c k;simp only [Nq hk,N9,NX];have h1:(((max 0 (m.events[k].times - tK c k)).toNat:Nat):Int)<=m.events[k].times:=by omega
 exact Int.mul_le_mul_of_nonneg_right h1 (Pj _)
theorem uM (m:bb) (c:List Int) (hw:nl m.events):∀ k,k<=m.events.length -> dX m c k<=j3 (m.events.take k)
 | 0,_=>by simp [dX,j3]
 | k+1,hk=>by
  have h1:=uM m c hw k (by omega);have h2:=Le m c (k:=k) (by omega) (hw.each k (by omega)).1;rw [dX,iO (by omega)];omega
theorem HN (m:bb) (c:List Int) (k:Nat):0<=Gq m c k:=by
 unfold Gq;exact Int.mul_nonneg (Pj _) (Pj _)
theorem sH (m:bb) (c:List Int):∀ k,0<=dX m c k
 | 0=>PP _
 | k+1=>by
  have:=sH m c k;have:=HN m c k;rw [dX];omega
theorem vo {l:List Ev} (hw:nl l):∀ {k:Nat} (hk:k<l.length) (n:Nat),k<n -> n<=l.length -> l[k].times * (l[k].sets.length:Int)<=j3 (l.take n)
 | k,hk,0,h,_=>absurd h (by omega)
 | k,hk,n+1,h,hn=>by
  have h0:∀ i (hi:i<l.length),0<=l[i].times * (l[i].sets.length:Int):=fun i hi=>Int.mul_nonneg (hw.each i hi).1 (Pj _)
  have hp:∀ j,j<=l.length -> 0<=j3 (l.take j):=fun j=>by
   induction j with
   | zero=>intro _;simp [j3]
   | succ j ih=>
    intro hj;have:=ih (by omega);have:=h0 j (by omega);rw [iO (by omega)];omega
  rw [iO (by omega)];by_cases e:k=n
  .subst e;have:=hp k (by omega);omega
  .have:=vo hw hk n (by omega) (by omega);have:=h0 n (by omega);omega
theorem ng {m:bb} (h:Du m) {k:Nat} (hk:k<m.events.length):m.events[k].sets.length<=4:=by
 have h1:=vo h.writes hk m.events.length hk (Nz _);rw [NG] at h1;have h2:=h.sum;obtain ⟨h3,h4,h5⟩:=h.writes.each k hk;by_cases e:m.events[k].times=0
 .have:=h5 e;omega
 .have h6:(1:Int) * (m.events[k].sets.length:Int)<=m.events[k].times * (m.events[k].sets.length:Int):=Int.mul_le_mul_of_nonneg_right (by omega) (Pj _);omega
theorem Ep {m:bb} (h:Du m) (c:List Int):0<=dX m c m.events.length /\ dX m c m.events.length<=4:=by
 have h1:=uM m c h.writes m.events.length (Nz _);rw [NG] at h1;have h2:=h.sum;exact ⟨sH m c _,by omega⟩
theorem ly.mono {N M:Nat} {z:Zn} (h:ly N z) (hm:N<=M):ly M z:=⟨by have:=h.cl;omega,by have:=h.ga;omega,h.at_⟩
structure ms (m:bb) (n:Nd):Prop where
 did:n.did.length=m.events.length
 cnt:n.cnt.length=m.events.length
 opn:ci n.opn
 don:ci n.don
 each:∀ i,i<m.events.length -> ci (n.did.getD i 0) /\ 0<=n.cnt.getD i 0 /\ n.cnt.getD i 0<=3
 z:ly 14 n.z
 gap:(n.z.gaps.length:Int)=max ((n.z.cls.length:Int) - 1) 0
theorem EQ {m:bb} {c:List Int} {n:Nd} (hE:gE m c) (hat:∀ x ∈ n.z.cls,aB x.attrs) (h:zP m c n):ms m n:=by
 obtain ⟨h1,⟨⟨h2,h3,h4⟩,_⟩⟩:=h;unfold uZ sd at h1;simp only [NU,NW] at h1;obtain ⟨⟨⟨⟨⟨c1,c2⟩,c3⟩,c4⟩,c5⟩,c6⟩:=h1;have h5:=yL (n:=m.attrs.length) (by have:=hE.ck.chk.attrs;omega) (fun x hx=>by have:=(hat x hx).2;omega) h3;have h6:=d9 c;have h7:=hE.clen;have h8:=hE.ck.chk.attrs;refine ⟨c2,c3,nG c4,nG c5,fun i hi=>?_,⟨by omega,by have:=h4.1;omega,hat⟩,h4.1⟩;have h9:=(vp _ _).1 c6 i hi;unfold vM at h9;simp only [NU,NW,Nq hi,N9,NX] at h9;have h10:=(hE.ck.writes.each i hi).2.1;exact ⟨nG h9.1.1,h9.1.2,by omega⟩
theorem qK {m:bb} {e:Nat} (he:e<m.events.length):oV m e=m.events[e].sets:=by simp [oV,he]
theorem D0 {m:bb} (h:Du m) {e:Nat} (he:e<m.events.length):∀ a ∈ oV m e,0<=a /\ a<31:=by
 intro a ha;rw [qK he] at ha;obtain ⟨i,hi,rfl⟩:=NV ha;have h1:=((h.named.events e he).2.2 i hi).1;have h2:=h.chk.attrs;unfold dx at h1;simp only [NU,NW] at h1;omega
theorem k8 {f:Nat -> Bool}:∀ {n:Nat} {u:Int},u ∈ fC f n -> 0<=u /\ u<(n:Int)
 | 0,u,h=>by simp [fC] at h
 | n+1,u,h=>by
  rw [fC] at h;split at h
  .rcases NK.1 h with h1 | h1
   .have:=k8 h1;omega
   .simp at h1;omega
  .have:=k8 h;omega
section
variable {m:bb} {c:List Int} {n:Nd}
theorem kn (hE:gE m c) (hK:ms m n) {e:Nat} (he:e<m.events.length):M4 20 (cI m n e) /\ (cI m n e).length<=2000404224:=by
 have hs:=ng hE.ck he;rw [<- qK he] at hs;have hl:=(Ep hE.ck n.cnt).2;refine ⟨fun y hy=>?_,tu (oV m e) hK.z hl _ (by omega)⟩;exact ((zY (oV m e) hK.z hl _ (by omega)).1 y hy).mono (by omega)
theorem Dr (hB:rP 20 n) (hK:ms m n) (e:Nat) (u:Int) (z:Zn) (hz:ly 20 z):rP 20 { dQ m n e u with z:=z }:=by
 refine ⟨hz,?_,?_,hB.opn,hB.don,fun x hx=>?_⟩
 .simp only [dQ,Pg];exact hB.did
 .simp only [dQ];split
  .rw [Pg];exact hB.cnt
  .exact hB.cnt
 .simp only [dQ] at hx;rcases OP hx with h1|h1
  .exact hB.dok x h1
  .rw [h1];exact p8 _ _
theorem Jn {N:Nat} (hB:rP N n) (ho:ci n.opn) (hd:ci n.don) (event:Int):rP N (o0 m c n event):=by
 have h:=om m c n.z event (bj n) ⟨ho,hd⟩ m.order.length (Nz _);exact ⟨hB.z,hB.did,hB.cnt,cF h.1,cF h.2,hB.dok⟩
theorem C1 (hB:rP 20 n) (hK:ms m n) (e:Nat) (u:Int) {zs:List Zn} (hz:M4 20 zs):∀ s ∈ fQ m c n e u zs,rP 20 s.nd:=by
 intro s hs;obtain ⟨z,h1,rfl⟩:=NC.1 hs;exact Jn (Dr hB hK e u z (hz z h1)) hK.opn hK.don _
theorem E4 (hE:gE m c) (hB:rP 20 n) (hK:ms m n) {e:Nat} (he:e<m.events.length):∀ s ∈ lW m c n e,rP 20 s.nd:=by
 intro s hs;obtain ⟨u,_,h1⟩:=Ow.1 hs;exact C1 hB hK e u (kn hE hK he).1 s h1
theorem rB (hE:gE m c) (s:St) (e:Int):(eW m s e).length<=4:=by
 have h1:=nS (fun u=>gj m s e (u:Int)) m.users.length;have h2:=hE.ck.chk.users;unfold eW;omega
theorem yF (hE:gE m c) (hK:ms m n) {e:Nat} (he:e<m.events.length):(lW m c n e).length<=8001616896:=by
 have h1:=f5 (fun u=>fQ m c n e u (cI m n e)) 2000404224 (eW m (bj n) (e:Int)) fun u _=>by
  rw [fQ,NI];exact (kn hE hK he).2
 have h2:=rB hE (bj n) (e:Int);have h3:=NS 2000404224 h2;unfold lW;omega
theorem jp (hE:gE m c) (hK:ms m n):∀ k,k<=m.events.length -> (cM m c n k).length<=k * 8001616896
 | 0,_=>by simp [cM]
 | k+1,hk=>by
  have h1:=jp hE hK k (by omega);have h2:=yF hE hK (e:=k) (by omega)
  have h3:cM m c n (k+1)=cM m c n k ++ lW m c n k:=by
   unfold cM;rw [OL,Pe];simp
  rw [h3,NB,PS];omega
theorem vk (hE:gE m c) (hB:rP 20 n) (hK:ms m n) {k:Nat} (hk:k<=m.events.length):∀ s ∈ cM m c n k,rP 20 s.nd:=by
 intro s hs;obtain ⟨e,he,h1⟩:=Ow.1 hs;exact E4 hE hB hK (by have:=Pc.1 he;omega) s h1
theorem Hc (hE:gE m c) (hB:rP 20 n):∀ s ∈ i6 m c n,rP 20 s.nd:=by
 intro s hs;unfold i6 at hs;split at hs
 .rename_i hP;have hK:=EQ hE hB.z.at_ hP;rcases NK.1 hs with h1|h1
  .rw [kN] at h1;exact vk hE hB hK (Nz _) s h1
  .split at h1
   .simp at h1
   .simp only [NR] at h1;rw [h1];exact hB
 .simp at hs
end
end
end
section
section
theorem xw {α:Type} [DecidableEq α] (l:List α) (x:α):bM (l ++ [x])=if x ∈ bM l then bM l else bM l ++ [x]:=by
 unfold bM;rw [OI];rfl
noncomputable def iB (m:bb) (c:List Int) (n:Nd) (e i j:Nat):List Sn:=
 cM m c n e ++ (((eW m (bj n) (e:Int)).take i).flatMap (fun u=>fQ m c n e u (cI m n e)) ++ ((((eW m (bj n) (e:Int))[i]?.map fun u=>fQ m c n e u (cI m n e)).getD []).take j))
theorem B8 (m:bb) (c:List Int) (n:Nd) (e:Nat):iB m c n e 0 0=cM m c n e:=by simp [iB]
theorem AX (m:bb) (c:List Int) (n:Nd) (e:Nat) {i:Nat} (hi:i<(eW m (bj n) (e:Int)).length):iB m c n e i (cI m n e).length=iB m c n e (i+1) 0:=by
 unfold iB;rw [Ns hi,Nq hi,Pe];simp only [N9,NX,O3,OG,OK,NJ]
 congr 2
 exact NT (by rw [fQ,NI];exact Nz _)
theorem Ed (m:bb) (c:List Int) (n:Nd) (e:Nat):iB m c n e (eW m (bj n) (e:Int)).length 0=cM m c n (e+1):=by
 unfold iB cM;rw [NG,OL,Pe];simp [lW]
theorem Bo (m:bb) (c:List Int) (n:Nd) (e:Nat) {i j:Nat} (hi:i<(eW m (bj n) (e:Int)).length) (hj:j<(cI m n e).length) :
  iB m c n e i (j+1)=iB m c n e i j ++ [⟨(e:Int),(eW m (bj n) (e:Int))[i],o0 m c { dQ m n e (eW m (bj n) (e:Int))[i] with z:=(cI m n e)[j] } (e:Int)⟩]:=by
 unfold iB;rw [Nq hi];simp only [N9,NX];rw [Ns (by simpa [fQ] using hj)];simp [fQ]
theorem DV (m:bb) (c:List Int) (n:Nd) (e:Nat) {i j:Nat}:∀ s ∈ iB m c n e i j,s ∈ cM m c n (e+1):=by
 intro s hs;unfold cM;rw [OL,Pe,NK];unfold iB at hs;rcases NK.1 hs with h|h
 .exact .inl h
 .right;simp only [O3,OG,OK];unfold lW;rcases NK.1 h with h1|h1
  .obtain ⟨u,hu,h2⟩:=Ow.1 h1;exact Ow.2 ⟨u,N6 hu,h2⟩
  .have h2:=N6 h1
   cases hw:(eW m (bj n) (e:Int))[i]? with
   | none=>rw [hw] at h2;simp at h2
   | some u=>
    rw [hw] at h2;exact Ow.2 ⟨u,Nr hw,h2⟩
theorem F0 {m:bb} {c:List Int} {n:Nd} (hE:gE m c) (hK:ms m n) {e i j:Nat} (he:e<m.events.length):(iB m c n e i j).length<=72014552064:=by
 have h1:=jp hE hK e (by omega);have h2:=hE.ck.chk.events
 have h3:=f5 (fun u=>fQ m c n e u (cI m n e)) 2000404224 ((eW m (bj n) (e:Int)).take i) fun u _=>by
  rw [fQ,NI];exact (kn hE hK he).2
 have h4:=rB hE (bj n) (e:Int);have h5:((eW m (bj n) (e:Int)).take i).length<=4:=by rw [NF];omega
 have h6:=NS 2000404224 h5
 have h7:(((((eW m (bj n) (e:Int))[i]?.map fun u=>fQ m c n e u (cI m n e)).getD []).take j)).length<=2000404224:=by
  rw [NF]
  cases hw:(eW m (bj n) (e:Int))[i]? with
  | none=>simp
  | some u=>
   have:=(kn hE hK he).2;simp [fQ];omega
 have h8:=NS 8001616896 (show e<=6 by omega);unfold iB;rw [NB,NB];omega
theorem FU (m:bb) (c:List Int) (n:Nd) (hE:gE m c) (hB:rP 20 n):ax Tryz.prog 33 [.agg (aQ m),sI c,.agg (fG n)] ⟨.sl 8 ((i6 m c n).map rK),[],0⟩:=by
 refine fc 99 ?_;refine aM ah Tryz.func33 rfl (by decide) Tryz.ntmps33 Tryz.results33 rfl ?_;have hf:=hE.fit;have hck:=hE.ck;obtain ⟨hgl,hml,hsl,hel,hal,hul,hrl,hsol,hol,hil⟩:=id hf.sizes;have hcl:=hB.z.cl;have hga:=hB.z.ga;have hdl:=hB.did;have hcn:=hB.cnt;have hc9:=hE.clen
 have hm:∀ e ∈ m.events,e.times<=10 /\ e.sets.length<=10:=fun x hx=>by
  obtain ⟨i,hi,rfl⟩:=NV hx;have h1:=(hck.writes.each i hi).2.1;have h2:=ng hck hi;exact ⟨by omega,by omega⟩
 obtain ⟨t,ht,hC⟩:=ki (tW m c n hel hm (by omega) (by omega) (by omega) (by omega) hE.cok hB.z.at_ (by omega) (by omega) hB.opn hB.don hB.dok);have hSt:=sq n (by omega) (by omega)
 cases t with
 | false=>
  have hn:i6 m c n=[]:=Ny fun h=>by have:=ht.2 h;cases this
  rw [hn]
  repeat' first|refine gq ?_|decide|refine sp ?_ ?_<;>intro _|refine cA hC ?_|fail
  all_goals exact ca (gO rfl)
 | true=>
  have hP:=ht.1 rfl;have hK:=EQ hE hB.z.at_ hP;have hn:i6 m c n=bM (cM m c n m.events.length) ++ (if yY m (bj n)=true then [] else [⟨-1,-1,n⟩]):=ND hP;rw [hn];have hos:aB (bj n).opn:=hB.opn;have hds:aB (bj n).don:=hB.don;have hdis:∀ x ∈ (bj n).did,aB x:=hB.dok;have hL:=rc m n.cnt hel hm (by omega);have hle:=Ep hck n.cnt;have hA:=Fx m (bj n) (by omega) (by omega) (by omega) (by omega) hos hds hE.rol hdis;obtain ⟨s,hs⟩:∃ s,s=bj n:=⟨_,rfl⟩
  repeat' first|refine gq ?_|decide|refine sp ?_ ?_<;>intro _|refine cA hC ?_|refine cA hSt ?_|fail
  refine ae (fun st=>∃ e:Nat,e<=m.events.length /\ st=⟨102,[(1,sI c),(3,.op 0 0 0),(5,.op 1 0 0),(7,.osl 3),(8,.op 2 0 0),(9,eI (e:Int))],[(0,some (.box 32 (aQ m))),(1,some (.box 62 (fG n))),(2,some (.box 106 (il (bj n)))),(3,some (.row 99 8 ((bM (cM m c n e)).map rK)))],4⟩) (fun st=>m.events.length - aq st 9) ⟨_,((aR 7 99 8 (by simp only [ia,aj.get,aX,aj.put,↓reduceIte,reduceCtorEq,Nat.reduceLT,Nat.reduceEqDiff,Nat.reduceAdd,Nat.reduceLeDiff,eq_self,implies_true,cM,O8,OG,bM,OW,N3])).trans (wS [0,1,2,3] (kf @cM.eq_1 (kf @O8 (kf @OG (kf @bM.eq_1 @OW)))))),0,Nv _,rfl⟩ ?_;rintro _ ⟨e,he,rfl⟩;by_cases hlt:e<m.events.length
  .obtain ⟨x,hx⟩:∃ x,x=m.events[e]:=⟨_,rfl⟩;have hrx:(m.events.map Iu)[e]?.getD []=Iu x:=by rw [hx];simp [hlt]
   have hse:oV m e=x.sets:=by rw [hx];exact qK hlt
   have hsl4:=ng hck hlt;rw [<- hx] at hsl4;have hW:=AQ n.z x.sets (dX m n.cnt m.events.length) hK.z (by omega) (by rw [<- hse];exact D0 hck hlt) ⟨by omega,hle.2⟩;have hze:cI m n e=rD n.z x.sets (dX m n.cnt m.events.length) x.sets.length:=(by rw [cI,hse]);rw [<- hze] at hW;obtain ⟨hzB,hzl⟩:=kn hE hK hlt;have hWho:=yK m (bj n) (e:Int) (by omega) (by omega) (by omega) hos hds hE.rol hdis;have hWhoT:ax Tryz.prog 83 [.agg (aQ m),.agg (il (bj n)),eI (e:Int)] ⟨sI (eW m (bj n) (e:Int)),[],0⟩:=ax.still [0] hWho (by simp [cG.frzs,cG.frz,ic,af.gc,AV.frz]) (by simp [AV.lt]);have hwl:=rB hE (bj n) (e:Int)
   have hwm:∀ u ∈ eW m (bj n) (e:Int),0<=u /\ u<31:=fun u hu=>by
    have:=k8 hu;omega
   have hz0:=B8 m c n e;have hall:=Ed m c n e
   repeat' first|refine ge (kf @hrx @hlt) ?_|decide|refine sp ?_ ?_<;>intro _
   refine aD [] [0,1,2,3,4,5,6,7,8,9,10] (.exec 11 (.exec 12 (.exec 13 .done))) (by kernel_rfl) (by simp [af.gc]) ?_
   repeat' first|refine gf (kf @hrx @hlt) ?_|decide|refine sp ?_ ?_<;>intro _|refine cA hL ?_|refine cA hW ?_|refine cA hWhoT ?_|fail
   refine ae (fun st=>∃ i:Nat,i<=(eW m (bj n) (e:Int)).length /\ st=⟨102,[(1,sI c),(3,.op 0 0 0),(5,.op 1 0 0),(7,.osl 3),(8,.op 2 0 0),(9,eI (e:Int)),(10,.sl 2 ((cI m n e).map ch)),(11,sI (eW m (bj n) (e:Int))),(12,eI (i:Int))],[(0,some (.box 32 (aQ m))),(1,some (.box 62 (fG n))),(2,some (.box 106 (il (bj n)))),(3,some (.row 99 8 ((bM (iB m c n e i 0)).map rK)))],4⟩) (fun st=>(eW m (bj n) (e:Int)).length - aq st 12) ⟨_,(wE hz0),0,Nv _,rfl⟩ ?_;rintro _ ⟨i,hi,rfl⟩;by_cases hli:i<(eW m (bj n) (e:Int)).length
   .have hsuc:=fun j (hj:j<(cI m n e).length)=>Bo m c n e hli hj;have hnx:=AX m c n e hli;obtain ⟨W,hWe⟩:∃ W,W=eW m (bj n) (e:Int):=⟨_,rfl⟩;obtain ⟨u,hu⟩:∃ u,u=(eW m (bj n) (e:Int))[i]:=⟨_,rfl⟩;have hru:((eW m (bj n) (e:Int)).map fun n=>[eI n])[i]?.getD []=[eI u]:=by rw [hu];simp [hli]
    have huo:=hwm u (hu ▸ Nt hli);have hk:=hK.each e hlt;have hTk:=Ii m n e u hlt (by have:=hK.did;omega) (by have:=hK.cnt;omega) (by omega) (by omega) (cF hk.1) ⟨by omega,by omega⟩ huo;have hTB:=fun z (hz:ly 20 z)=>Dr hB hK e u z hz;simp only [<- hu] at hsuc;obtain ⟨T,hTe⟩:∃ T,T=dQ m n e u:=⟨_,rfl⟩;rw [<- hTe] at hTk hTB hsuc;have hTz:T.opn=n.opn /\ T.don=n.don:=by rw [hTe];exact ⟨rfl,rfl⟩
    repeat' first|refine ge (kf @hru @hli) ?_|decide|refine sp ?_ ?_<;>intro _
    refine aD [] [0,1,2,3,4,5,6] (.two 7 (.exec 8 (.exec 9 .done)) 8 (.exec 7 (.exec 9 .done))) (by kernel_rfl) (by simp [af.gc]) ?_
    repeat' first|refine gf (kf @hru @hli) ?_|decide|refine sp ?_ ?_<;>intro _|refine cA hTk ?_|(with_reducible apply And.intro)
    all_goals
     refine ae (fun st=>∃ (j:Nat) (z:Zn),j<=(cI m n e).length /\ st=⟨102,[(1,sI c),(3,.op 0 0 0),(5,.op 1 0 0),(7,.osl 3),(8,.op 2 0 0),(9,eI (e:Int)),(10,.sl 2 ((cI m n e).map ch)),(11,sI (eW m (bj n) (e:Int))),(12,eI (i:Int)),(13,.op 4 0 0),(14,eI (j:Int))],[(0,some (.box 32 (aQ m))),(1,some (.box 62 (fG n))),(2,some (.box 106 (il (bj n)))),(3,some (.row 99 8 ((bM (iB m c n e i j)).map rK))),(4,some (.box 62 (fG { T with z:=z })))],5⟩) (fun st=>(cI m n e).length - aq st 14) ⟨_,wC,0,T.z,Nv _,rfl⟩ ?_;rintro _ ⟨j,z0,hj,rfl⟩;by_cases hlj:j<(cI m n e).length
     .obtain ⟨z,hz⟩:∃ z,z=(cI m n e)[j]:=⟨_,rfl⟩;have hrz:((cI m n e).map ch)[j]?.getD []=ch z:=by rw [hz];simp [hlj]
      have hzB2:=hzB z (hz ▸ Nt hlj);have hs1:=hsuc j hlj;rw [<- hz] at hs1;have hNB:=hTB z hzB2;have hPs:=DL m c { T with z:=z } (e:Int) hf hE.stg (by omega) (N:=20) (by omega) hNB (by rw [show ({ T with z:=z }:Nd).opn=n.opn from hTz.1];exact hK.opn) (by rw [show ({ T with z:=z }:Nd).don=n.don from hTz.2];exact hK.don);have hal:=F0 (c:=c) (i:=i) (j:=j) hE hK hlt;have hul:=k7 (iB m c n e i j)
      have hsub:∀ y ∈ bM (iB m c n e i j),rP 20 y.nd:=fun y hy=>by
       rw [kN] at hy;exact vk hE hB hK (by omega) y (DV m c n e y hy)
      have hus:=xw (iB m c n e i j) ⟨(e:Int),u,o0 m c { T with z:=z } (e:Int)⟩;rw [<- hs1] at hus;obtain ⟨P,hPe⟩:∃ P,P=o0 m c { T with z:=z } (e:Int):=⟨_,rfl⟩;rw [<- hPe] at hPs hus;obtain ⟨A,hA2⟩:∃ A,A=bM (iB m c n e i j):=⟨_,rfl⟩;rw [<- hA2] at hul hsub hus ⊢;have hH:=G5 A ⟨(e:Int),u,P⟩ (by omega) (N:=20) (by omega) hsub;by_cases hmem:(⟨(e:Int),u,P⟩:Sn) ∈ A
      .rw [ND hmem] at hus;rw [NL hmem] at hH
       repeat' first|refine ge (kf @hlj @hrz) ?_|decide|refine sp ?_ ?_<;>intro _
       refine aD [] [0,1,2,3,4,5,6,7,8] (.two 9 (.take 10 (.exec 11 (.exec 12 .done))) 11 (.exec 9 (.take 10 (.exec 12 .done)))) (by kernel_rfl) (by simp [af.gc]) ?_
       repeat' first|refine gf (kf @hru (kf @hli (kf @hlj @hrz))) ?_|decide|refine sp ?_ ?_<;>intro _|refine cA hPs ?_|refine cA hH ?_|(with_reducible apply And.intro)
       all_goals exact rI (wE @hus) ⟨j+1,z,by omega,rfl⟩
      .rw [Ny hmem] at hus;rw [NE hmem] at hH;have et:(bM (iB m c n e i (j+1))).map rK=A.map rK ++ [rK ⟨(e:Int),u,P⟩]:=by rw [hus];simp
       repeat' first|refine ge (kf @hlj @hrz) ?_|decide|refine sp ?_ ?_<;>intro _
       refine aD [] [0,1,2,3,4,5,6,7,8] (.two 9 (.take 10 (.exec 11 (.exec 12 .done))) 11 (.exec 9 (.take 10 (.exec 12 .done)))) (by kernel_rfl) (by simp [af.gc]) ?_
       repeat' first|refine gf (kf @hru (kf @hli (kf @hlj @hrz))) ?_|decide|refine sp ?_ ?_<;>intro _|refine cA hPs ?_|refine cA hH ?_|(with_reducible apply And.intro)
       all_goals first
        | rfl
        | omega
        | exact rI (wS [0,1,2,7,4] (kf et hA2)) ⟨j+1,z,by omega,rfl⟩
     .obtain rfl:j=(cI m n e).length:=by omega
      rw [hnx]
      repeat' first|refine gf @hlj ?_|decide|refine sp ?_ ?_<;>intro _
      all_goals exact rI wC ⟨i+1,by omega,rfl⟩
   .obtain rfl:i=(eW m (bj n) (e:Int)).length:=by omega
    repeat' first|refine gf @hli ?_|decide|refine sp ?_ ?_<;>intro _
    all_goals exact rI (wE @hall) ⟨e+1,by omega,rfl⟩
  .obtain rfl:e=m.events.length:=by omega
   have hUl:=k7 (cM m c n m.events.length);have hNl:=jp hE hK m.events.length (Nz _);have hev:=hck.chk.events;have hNl2:=NS 8001616896 hev;obtain ⟨U,hU⟩:∃ U,U=bM (cM m c n m.events.length):=⟨_,rfl⟩;rw [<- hU] at hUl ⊢
   cases hb:yY m (bj n) with
   | true=>
    rw [hb] at hA;rw [ND rfl,OK]
    repeat' first|refine gf @hlt ?_|decide|refine sp ?_ ?_<;>intro _|refine cA hA ?_|fail
    all_goals exact qW rfl gc
   | false=>
    rw [hb] at hA;rw [Ny (by simp)];have et:(U ++ [(⟨-1,-1,n⟩:Sn)]).map rK=U.map rK ++ [rK ⟨-1,-1,n⟩]:=(by simp);rw [et]
    repeat' first|refine gf @hlt ?_|decide|refine sp ?_ ?_<;>intro _|refine cA hA ?_|(with_reducible apply And.intro)
    all_goals first
     | rfl
     | omega
     | exact qW rfl gc
end
section
theorem zm {α:Type} [DecidableEq α] {x:α}:∀ {l:List α} {k:Nat} (hk:k<l.length),l[k]=x -> x ∉ l.take k -> l.idxOf x=k
 | y :: l,0,_,h,_=>by
  have:y=x:=h;rw [this,List.idxOf_cons_self]
 | y :: l,k+1,hk,h,hn=>by
  have h1:x ≠ y /\ x ∉ l.take k:=by simpa using hn
  have hb:(y == x)=false:=Oa.2 (Ne.symm h1.1);rw [List.idxOf_cons,hb,cond_false,zm (by simpa using hk) (by simpa using h) h1.2]
 | [],k,hk,_,_=>absurd hk (by simp)
def r6 (l:List Nd) (n:Nd):Int:=if n ∈ l then (l.idxOf n:Int) else -1
theorem Ga (l:List Nd) (n:Nd) (hll:l.length<=2700000000000) {N:Nat} (hN:N<=1000000) (hl:∀ y ∈ l,rP N y):ax Tryz.prog 34 [.sl 6 (l.map fG),.agg (fG n)] (val (.int .i64 (r6 l n))):=by
 refine aa ah Tryz.func34 rfl (by decide) Tryz.ntmps34 Tryz.results34 rfl (aH _) ?_
 repeat' first|refine go ?_|decide|refine sp ?_ ?_<;>intro _
 refine ae (fun st=>∃ k:Nat,k<=l.length /\ n ∉ l.take k /\ st=⟨19,[(0,.sl 6 (l.map fG)),(3,.op 0 0 0),(5,eI (k:Int))],[(0,some (.box 62 (fG n)))],1⟩) (fun st=>l.length - aq st 5) ⟨_,wC,0,Nv _,by simp,rfl⟩ ?_;rintro _ ⟨k,hk,hI,rfl⟩;by_cases hlt:k<l.length
 .obtain ⟨y,hy⟩:∃ y,y=l[k]:=⟨_,rfl⟩;have hrow:(l.map fG)[k]?.getD []=fG y:=by rw [hy];simp [hlt]
  have hB:=hl y (hy ▸ Nt hlt);have b1:=hB.z.cl;have b2:=hB.z.ga;have b3:=hB.did;have b4:=hB.cnt;have hS:=sX y n (by omega) (by omega) (by omega) (by omega);have hm:n ∈ l.take (k+1) ↔ n ∈ l.take k \/ n=y:=by rw [Ns hlt,NK,NR,hy]
  cases h7:decide (y=n) with
  | false=>
   rw [h7] at hS;have hne:¬ y=n:=fun e=>by rw [e] at h7;simp at h7
   repeat' first|refine gf (kf @hrow @hlt) ?_|decide|refine sp ?_ ?_<;>intro _|refine cA hS ?_|fail
   all_goals exact rI wC ⟨k+1,by omega,fun h=>(hm.1 h).elim hI fun e=>hne e.symm,rfl⟩
  | true=>
   rw [h7] at hS;have he:y=n:=(by simpa using h7);have hmem:n ∈ l:=by rw [<- he,hy];exact Nt hlt
   have hix:r6 l n=(k:Int):=by
    rw [r6,ND hmem,zm hlt (by rw [<- hy];exact he) hI]
   rw [hix]
   repeat' first|refine gf (kf @hrow @hlt) ?_|decide|refine sp ?_ ?_<;>intro _|refine cA hS ?_|fail
 .obtain rfl:k=l.length:=by omega
  rw [NG] at hI;have hix:r6 l n = -1:=Ny hI;rw [hix]
  repeat' first|refine gf @hlt ?_|decide|refine sp ?_ ?_<;>intro _
def ir (N:List Nd) (l:List Sn) (r:List uq):Prop:=r.length=l.length /\ ∀ j (h:j<l.length) (h2:j<r.length),r[j].ev=l[j].ev /\ r[j].us=l[j].us /\ 0<=r[j].dst /\ N[r[j].dst.toNat]? = some l[j].nd
theorem ir.mono {N N':List Nd} {l:List Sn} {r:List uq} (h:ir N l r) (hp:N <+: N'):ir N' l r:=by
 obtain ⟨t,rfl⟩:=hp;refine ⟨h.1,fun j h1 h2=>?_⟩;obtain ⟨k1,k2,k3,k4⟩:=h.2 j h1 h2;exact ⟨k1,k2,k3,by rw [N1 (Nw.1 k4).1];exact k4⟩
theorem ir.snoc {N:List Nd} {l:List Sn} {r:List uq} {k:Nat} (hk:k<l.length) (h:ir N (l.take k) r) {e:uq} (he:e.ev=l[k].ev /\ e.us=l[k].us /\ 0<=e.dst /\ N[e.dst.toNat]? = some l[k].nd):ir N (l.take (k+1)) (r ++ [e]):=by
 have hl:r.length=k:=by
  have:=h.1;rw [NF] at this;omega
 refine ⟨by rw [NB,N4,NF];omega,fun j h1 h2=>?_⟩;by_cases e1:j=k
 .subst e1
  have:(r ++ [e])[j]=e:=by
   rw [PC (by omega)];simp [hl]
  rw [this,List.getElem_take];exact he
 .have h3:j<k:=by
   rw [NF] at h1;omega
  have h4:=h.2 j (by rw [NF];omega) (by omega);rw [Pk (by omega),List.getElem_take];rw [List.getElem_take] at h4;exact h4
structure vx (m:bb) (c:List Int) (N:List Nd) (E:List (List uq)) (k:Nat):Prop where
 first:N[0]? = some (oP m c (dr m))
 len:E.length=k
 le:k<=N.length
 nd:N.Nodup
 bnd:∀ n ∈ N,rP 20 n
 rows:∀ i (h:i<N.length) (h2:i<E.length),ir N (i6 m c N[i]) E[i]
structure Hh (m:bb) (c:List Int) (N0 N:List Nd) (L:List Sn) (r:List uq) (i:Nat):Prop where
 pre:N0 <+: N
 len:N.length<=N0.length+i
 nd:N.Nodup
 bnd:∀ n ∈ N,rP 20 n
 edg:ir N (L.take i) r
def Ex (m:bb) (c:List Int) (most:Nat) (R:cG):Prop:=R=⟨.tup [.agg [.c (.slice none 0 0),.c (.slice none 0 0)],eB false],[],0⟩ \/ ∃ N E,vx m c N E N.length /\ N.length<=most /\ R=⟨.tup [.agg [.sl 6 (N.map fG),.sl 1 (ja E)],eB true],[],0⟩
def Ms (m:bb) (c:List Int) (most:Nat) (R:cG):Prop:=R=⟨.tup [.agg [.c (.slice none 0 0),.c (.slice none 0 0)],eB false],[],0⟩ \/ ∃ N E,vx m c N E N.length /\ N.length<=most /\ R=⟨.tup [.agg [.osl 0,.osl 1],eB true],[(0,some (.row 62 6 (N.map fG))),(1,some (.row 96 1 (ja E)))],2⟩
theorem IU {P:Program} {f:FuncId} {args:List AV} {m:bb} {c:List Int} {most:Nat} (h:dn P f args (Ms m c most)):dn P f args (Ex m c most):=
 (((h.frz 0).frz 1).drop).mono fun R hR=>by
  obtain ⟨R1,⟨R2,⟨R3,h3,rfl⟩,rfl⟩,h4⟩:=hR;rcases h3 with rfl|⟨N,E,h5,h6,rfl⟩
  .rcases h4 with ⟨_,rfl⟩ | ⟨h4,_⟩
   .left;simp [cG.frz,af.get]
   .exact absurd (by simp [cG.frz,af.get,AV.lt,AV.ltL]) h4
  .rcases h4 with ⟨_,rfl⟩ | ⟨h4,_⟩
   .right;exact ⟨N,E,h5,h6,by simp [cG.frz,af.gc,AV.frz,AV.frzL,bE,aE.frz]⟩
   .exact absurd (by simp [cG.frz,af.gc,AV.frz,AV.frzL,bE,aE.frz,AV.lt,AV.ltL]) h4
theorem CE {m:bb} {c:List Int} {n:Nd} (hE:gE m c) (hB:rP 20 n):(i6 m c n).length<=48009701377:=by
 unfold i6;split
 .rename_i hP;have hK:=EQ hE hB.z.at_ hP;have h1:=k7 (cM m c n m.events.length);have h2:=jp hE hK m.events.length (Nz _);have h3:=NS 8001616896 hE.ck.chk.events;rw [NB];split
  .simp only [Ps];omega
  .simp only [N4];omega
 .exact Nv _
theorem AY (vals c:List Int) (h:vals.length+c.length<=20):ly 20 (mw vals c 0) /\ ∀ r,ly 20 (mw vals c r):=by
 have key:∀ r,ly 20 (mw vals c r):=fun r=>by
  have hl:=d9 (vals ++ c);rw [NB] at hl;refine ⟨by simp [mw,Be,hY];omega,by simp [mw,gI,hY];omega,fun x hx=>?_⟩;obtain ⟨n,_,rfl⟩:=NC.1 hx;exact n7 _ _ _
 exact ⟨key 0,key⟩
theorem HG {m:bb} {c:List Int} (hE:gE m c):rP 20 (oP m c (dr m)):=by
 obtain ⟨e1,e2,e3⟩:=wj m;have h1:=hE.ck.chk;have h2:=hE.clen;have h3:=h1.attrs;have h4:=h1.inits;have h5:=h1.events;have h31:=qt m (-1) (m.order.take m.order.length) (jI m) (by simp [jI,ci])
 have hd:(dr m).did=List.replicate m.events.length 0:=by
  have h:=od m (-1) (m.order.take m.order.length) (jI m);unfold dr j9;rw [h.2.1];rfl
 refine ⟨(AY (dr m).vals c (by rw [e1];omega)).2 _,by show (dr m).did.length<=10;omega,by show (dr m).cnt.length<=10;omega,cF h31.1,cF h31.2,fun x hx=>?_⟩;have hx2:x ∈ (dr m).did:=hx;rw [hd] at hx2;rw [(List.mem_replicate.1 hx2).2];simp [aB]
theorem Cw (m:bb) (c:List Int) (most:Nat) (hE:gE m c) (hi:∀ x ∈ m.inits,aB x) (hmost:most<=1000):dn Tryz.prog 11 [.agg (aQ m),sI c,eI (most:Int)] (Ex m c most):=by
 refine IU ?_;refine aM ah Tryz.func11 rfl (by decide) Tryz.ntmps11 Tryz.results11 rfl ?_;have hc9:=hE.clen;obtain ⟨hgl,hml,hsl,hel,hal,hul,hrl,hsol,hol,hil⟩:=id hE.fit.sizes
 have hm:∀ e ∈ m.events,e.times<=10 /\ e.sets.length<=10:=fun x hx=>by
  obtain ⟨i,hi,rfl⟩:=NV hx;have h1:=(hE.ck.writes.each i hi).2.1;have h2:=ng hE.ck hi;exact ⟨by omega,by omega⟩
 have hBg:=t4 m c hE.fit hE.stg hi hm (by omega) hE.cok;have hBB:=HG hE;obtain ⟨n0,hn0⟩:∃ n0,n0=oP m c (dr m):=⟨_,rfl⟩;have hX0:vx m c [n0] [] 0:=⟨by rw [hn0];rfl,rfl,Nv _,by simp,fun n hn=>by simp only [NR] at hn;rw [hn,hn0];exact hBB,fun i h h2=>absurd h2 (by simp)⟩;have e0:([n0]:List Nd).map fG=[fG n0]:=rfl;rw [<- hn0] at hBg
 repeat' first|refine gq ?_|decide|refine sp ?_ ?_<;>intro _|refine cA hBg ?_|fail
 refine ⟨rfl,?_⟩
 refine ae (fun st=>∃ (k:Nat) (N:List Nd) (E:List (List uq)),(vx m c N E k /\ (N.length<=most \/ (k=0 /\ N.length=1))) /\ st=⟨96,[(1,sI c),(2,eI (most:Int)),(3,.op 0 0 0),(6,.op 1 0 0),(8,.op 2 0 0),(9,eI (k:Int))],[(0,some (.box 32 (aQ m))),(1,some (.box 44 [.c (.slice none 0 0),.c (.slice none 0 0)])),(2,some (.box 44 [.osl 3,.osl 4])),(3,some (.row 62 6 (N.map fG))),(4,some (.row 96 1 (ja E)))],5⟩) (fun st=>most+2 - aq st 9)
  ⟨_,((dN 3 1 96 1 (t:=44) (cells:=[.osl 2,.c (.slice none 0 0)]) (by simp [af.gc]) rfl).trans (wS [0,1,3,2,4] (kf @PQ (kf @PR (kf e0 @ja.eq_1))))),0,[n0],[],⟨hX0,.inr ⟨rfl,rfl⟩⟩,rfl⟩ ?_
 rintro _ ⟨k,N,E,⟨hX,hlen⟩,rfl⟩;have hNl:N.length<=1000:=by omega
 by_cases hlt:k<N.length
 .obtain ⟨n,hn⟩:∃ n,n=N[k]:=⟨_,rfl⟩;have hnB:=hX.bnd n (hn ▸ Nt hlt);have hrn:(N.map fG)[k]?.getD []=fG n:=by rw [hn];simp [hlt]
  have hNx:=FU m c n hE hnB;have hLl:=CE hE hnB;have hLB:=Hc hE hnB;obtain ⟨L,hL⟩:∃ L,L=i6 m c n:=⟨_,rfl⟩;rw [<- hL] at hNx hLl hLB;have hkm:k<=most+1:=by omega
  repeat' first|refine ge (kf @hlt @hrn) ?_|decide|refine sp ?_ ?_<;>intro _
  refine aD [] [0,1,2,3,4,5,6] (.exec 7 (.exec 8 .done)) (by kernel_rfl) (by simp [af.gc]) ?_
  repeat' first|refine gf (kf @hlt @hrn) ?_|decide|refine sp ?_ ?_<;>intro _|refine cA hNx ?_|fail
  have hXi0:Hh m c N N L [] 0:=⟨List.prefix_rfl,Nz _,hX.nd,hX.bnd,⟨rfl,fun j h _=>absurd h (by simp)⟩⟩
  refine ae (fun st=>∃ (i:Nat) (M:List Nd) (r:List uq),(i<=L.length /\ Hh m c N M L r i) /\ st=⟨96,[(1,sI c),(2,eI (most:Int)),(3,.op 0 0 0),(6,.op 1 0 0),(8,.op 2 0 0),(9,eI (k:Int)),(10,.sl 8 (L.map rK)),(11,.osl 5),(12,eI (i:Int))],[(0,some (.box 32 (aQ m))),(1,some (.box 44 [.c (.slice none 0 0),.c (.slice none 0 0)])),(2,some (.box 44 [.osl 3,.osl 4])),(3,some (.row 62 6 (M.map fG))),(4,some (.row 96 1 (ja E))),(5,some (.row 101 3 (r.map Gu)))],6⟩) (fun st=>L.length - aq st 12)
   ⟨_,((aR 11 101 3 (by simp only [ia,aj.get,aX,aj.put,↓reduceIte,reduceCtorEq,Nat.reduceLT,Nat.reduceEqDiff,Nat.reduceAdd,Nat.reduceLeDiff,eq_self,implies_true,N3])).trans (wS [0,1,2,3,4,5] trivial)),0,N,[],⟨Nv _,hXi0⟩,rfl⟩ ?_
  rintro _ ⟨i,M,r,⟨hil2,hXi⟩,rfl⟩;have hMl:=hXi.len
  have hrl2:r.length<=48009701377:=by
   have:=hXi.edg.1;rw [NF] at this;omega
  by_cases hli:i<L.length
  .obtain ⟨y,hy⟩:∃ y,y=L[i]:=⟨_,rfl⟩;have hry:(L.map rK)[i]?.getD []=rK y:=by rw [hy];simp [hli]
   have q2:List.drop 2 (rK y)=fG y.nd:=rfl;have hyB:=hLB y (hy ▸ Nt hli);have hF:=Ga M y.nd (by omega) (N:=20) (by omega) hXi.bnd;by_cases hmem:y.nd ∈ M
   .have hfi:r6 M y.nd=(M.idxOf y.nd:Int):=ND hmem;have hge:decide ((M.idxOf y.nd:Int)<0)=false:=NE (by omega);have hidx:=N5 hmem;have hget:M[M.idxOf y.nd]? = some y.nd:=(by rw [Nq hidx,OQ]);rw [hfi] at hF;obtain ⟨q,hq⟩:∃ q,q=M.idxOf y.nd:=⟨_,rfl⟩;rw [<- hq] at hF hge hget;have hXn:Hh m c N M L (r ++ [⟨y.ev,y.us,(q:Int)⟩]) (i+1):=⟨hXi.pre,by omega,hXi.nd,hXi.bnd,hXi.edg.snoc hli (by rw [<- hy];exact ⟨rfl,rfl,by simp,by simpa using hget⟩)⟩;have et:(r ++ [(⟨y.ev,y.us,(q:Int)⟩:uq)]).map Gu=r.map Gu ++ [[eI y.ev,eI y.us,eI (q:Int)]]:=(by simp)
    repeat' first|refine ge (kf @hli @hry) ?_|decide|refine sp ?_ ?_<;>intro _
    refine aD [] [0,1,2,3,4,5,6] (.exec 7 (.exec 8 .done)) (by kernel_rfl) (by simp [af.gc]) ?_
    repeat' first|refine ge (kf @hli (kf @hry q2)) ?_|decide|refine sp ?_ ?_<;>intro _
    refine aw hF ?_
    repeat' first|refine ge (kf @hli (kf @hry (kf q2 @hge))) ?_|decide|refine sp ?_ ?_<;>intro _
    refine aD [5] [0,1,2,3,4,5,6,7,8,9,10,11,12] (.exec 13 (.exec 14 (.exec 15 .done))) (by kernel_rfl) (by simp [af.gc]) ?_
    repeat' first|refine gf (kf @hli (kf @hry (kf q2 @hge))) ?_|decide|refine sp ?_ ?_<;>intro _|(with_reducible apply And.intro)
    all_goals first
     | rfl
     | omega
     | exact rI (wS [0,1,2,3,4,7] et) ⟨i+1,M,_,⟨by omega,hXn⟩,rfl⟩
   .have hfi:r6 M y.nd = -1:=Ny hmem;have hge:decide ((-1:Int)<0)=true:=(by decide);rw [hfi] at hF
    have hXn:Hh m c N (M ++ [y.nd]) L (r ++ [⟨y.ev,y.us,(M.length:Int)⟩]) (i+1):=by
     refine ⟨hXi.pre.trans (List.prefix_append _ _),by rw [NB,N4];omega,?_,fun n hn=>?_,(hXi.edg.mono (List.prefix_append _ _)).snoc hli (by rw [<- hy];exact ⟨rfl,rfl,by simp,by simp⟩)⟩
     .rw [List.nodup_append];refine ⟨hXi.nd,by simp,fun a ha b hb=>?_⟩;simp only [NR] at hb;rw [hb];exact fun e=>hmem (e ▸ ha)
     .rcases NK.1 hn with h1 | h1
      .exact hXi.bnd n h1
      .simp only [NR] at h1;rw [h1];exact hyB
    have et:(r ++ [(⟨y.ev,y.us,(M.length:Int)⟩:uq)]).map Gu=r.map Gu ++ [[eI y.ev,eI y.us,eI (M.length:Int)]]:=(by simp);have et2:(M ++ [y.nd]).map fG=M.map fG ++ [fG y.nd]:=(by simp)
    repeat' first|refine ge (kf @hli @hry) ?_|decide|refine sp ?_ ?_<;>intro _
    refine aD [] [0,1,2,3,4,5,6] (.exec 7 (.exec 8 .done)) (by kernel_rfl) (by simp [af.gc]) ?_
    repeat' first|refine ge (kf @hli (kf @hry q2)) ?_|decide|refine sp ?_ ?_<;>intro _
    refine aw hF ?_
    repeat' first|refine ge (kf @hli (kf @hry (kf q2 @hge))) ?_|decide|refine sp ?_ ?_<;>intro _
    refine aD [2,3] [0,2,3,4,5,6] (.two 1 (.exec 7 (.exec 8 (.take 9 (.exec 10 .done)))) 7 (.exec 1 (.exec 8 (.take 9 (.exec 10 .done))))) (by kernel_rfl) (by simp [af.gc]) ?_
    repeat' first|refine ge (kf @hli (kf @hry (kf q2 @hge))) ?_|decide|refine sp ?_ ?_<;>intro _
    repeat' (with_reducible apply And.intro)
    all_goals first
     | rfl
     | omega
     | skip
    all_goals refine aD [5] [0,1,2,3,4,5,6,7,8,9,10,11,12] (.exec 13 (.exec 14 (.exec 15 .done))) (by kernel_rfl) (by simp [af.gc]) ?_
    all_goals
     repeat' first|refine gf (kf @hli (kf @hry (kf q2 @hge))) ?_|decide|refine sp ?_ ?_<;>intro _|(with_reducible apply And.intro)
     all_goals first
      | rfl
      | omega
      | exact rI (wS [0,1,2,7,4,9] (kf et et2)) ⟨i+1,M ++ [y.nd],_,⟨by omega,hXn⟩,rfl⟩
  .obtain rfl:i=L.length:=by omega
   have hMl2:M.length<=50000000000:=(by omega);by_cases hmo:most<M.length
   .have hmd:decide ((most:Int)<(M.length:Int))=true:=NL (by omega)
    repeat' first|refine gf (kf @hli @hmo) ?_|decide|refine sp ?_ ?_<;>intro _
    all_goals exact ⟨_,.inl rfl,⟨fun id o h=>(by cases h),by simp [AV.lt,AV.ltL]⟩,aU (by simp [AV.ren,AV.renL])⟩
   .have hXe:vx m c M (E ++ [r]) (k+1):=by
     obtain ⟨t,ht⟩:=hXi.pre;have hMle:N.length<=M.length:=by rw [<- ht,NB];omega
     refine ⟨?_,by rw [NB,N4,hX.len],by omega,hXi.nd,hXi.bnd,fun j h h2=>?_⟩
     .rw [<- ht,N1 (by omega)];exact hX.first
     .have hjl:j<k+1:=by rw [NB,N4,hX.len] at h2;exact h2
      have hge:M[j]=N[j]'(by omega):=by
       simp only [<- ht];rw [Pk (by omega)]
      rw [hge];by_cases e:j=k
      .subst e
       have h3:(E ++ [r])[j]=r:=by
        rw [PC (by rw [hX.len];omega)];simp [hX.len]
       rw [h3,<- hn,<- hL];have:=hXi.edg;rw [NG] at this;exact this
      .have h3:(E ++ [r])[j]=E[j]'(by rw [hX.len];omega):=Pk _;rw [h3];exact (hX.rows j (by omega) (by rw [hX.len];omega)).mono hXi.pre
    have et:ja (E ++ [r])=ja E ++ [[.sl 3 (r.map Gu)]]:=(by simp [ja]);have hEl:E.length<=1000:=by rw [hX.len];omega
    repeat' first|refine gf (kf @hli @hmo) ?_|decide|refine sp ?_ ?_<;>intro _|(with_reducible apply And.intro)
    all_goals first
     | rfl
     | omega
     | exact rI (wS [0,1,2,3,7] et) ⟨k+1,M,E ++ [r],⟨hXe,.inl (by omega)⟩,rfl⟩
 .have hkn:k=N.length:=by have:=hX.le;omega
  subst hkn;have hle:N.length<=most:=by omega
  have hd:decide ((N.length:Int)<=(most:Int))=true:=NL (by omega)
  repeat' first|refine ge (kf @hlt @hle) ?_|decide|refine sp ?_ ?_<;>intro _
  refine aD [1] [0,1,2,3,4,5] (.exec 6 (.exec 7 .done)) (by kernel_rfl) (by simp [af.gc]) ?_
  repeat' first|refine gf (kf @hlt @hle) ?_|decide|refine sp ?_ ?_<;>intro _
  all_goals exact ⟨_,.inr ⟨N,E,hX,hle,rfl⟩,jW (by simp [cr,aE.lt,AV.ltL,AV.lt]) (by simp [AV.lt,AV.ltL]),⟨[3,4],by decide,rfl,by simp [cb,af.gc]⟩⟩
end
end
section
section
theorem Im (n:Nat) (b:Bool) (hn:n<=1000000):ax Tryz.prog 55 [eI (n:Int),eB b] (ic 4 1 (dZ (List.replicate n b))):=by
 refine aa ah Tryz.func55 rfl (by decide) Tryz.ntmps55 Tryz.results55 rfl (cB _ _ _) ?_
 repeat' first|refine go ?_|decide|refine sp ?_ ?_<;>intro _
 refine ae (fun st=>∃ k:Nat,k<=n /\ st=⟨17,[(0,eI (n:Int)),(1,eB b),(5,.osl 0),(6,eI (k:Int))],[(0,some (.row 4 1 (dZ (List.replicate k b))))],1⟩) (fun st=>n - aq st 6) ⟨_,((aR 5 4 1 (by simp only [ia,aj.get,aX,aj.put,↓reduceIte,reduceCtorEq,Nat.reduceLT,Nat.reduceEqDiff,Nat.reduceAdd,Nat.reduceLeDiff,eq_self,implies_true,List.replicate_zero,N3])).trans (wS [0] @List.replicate_zero.{0})),0,Nv _,rfl⟩ ?_;rintro _ ⟨k,hk,rfl⟩;by_cases hlt:k<n
 .have et:dZ (List.replicate (k+1) b)=dZ (List.replicate k b) ++ [[eB b]]:=by rw [List.replicate_succ'];simp
  repeat' first|refine gf (kf @hlt @List.length_replicate.{0}) ?_|decide|refine sp ?_ ?_<;>intro _|(with_reducible apply And.intro)
  all_goals first
   | rfl
   | omega
   | exact rI (wS [2] et) ⟨k+1,by omega,rfl⟩
 .obtain rfl:k=n:=by omega
  repeat' first|refine gf @hlt ?_|decide|refine sp ?_ ?_<;>intro _
  exact aO (by simp [af.gc])
theorem DR (a:List Bool) (ha:a.length<=1000000):ax Tryz.prog 51 [j2 a] (ic 4 1 (dZ (a.map (!·)))):=by
 refine aa ah Tryz.func51 rfl (by decide) Tryz.ntmps51 Tryz.results51 rfl (cB _ _ _) ?_
 repeat' first|refine go ?_|decide|refine sp ?_ ?_<;>intro _
 refine ae (fun st=>∃ k:Nat,k<=a.length /\ st=⟨20,[(0,j2 a),(3,.osl 0),(4,eI (k:Int))],[(0,some (.row 4 1 (dZ ((a.take k).map (!·)))))],1⟩) (fun st=>a.length - aq st 4) ⟨_,((aR 3 4 1 (by simp only [ia,aj.get,aX,aj.put,↓reduceIte,reduceCtorEq,Nat.reduceLT,Nat.reduceEqDiff,Nat.reduceAdd,Nat.reduceLeDiff,eq_self,implies_true,NJ,N3])).trans (wS [0] @NJ)),0,Nv _,rfl⟩ ?_;rintro _ ⟨k,hk,rfl⟩;by_cases hlt:k<a.length
 .obtain ⟨x,hx⟩:∃ x,x=a[k]:=⟨_,rfl⟩;have hrow:(a.map fun b=>[eB b])[k]?.getD []=[eB x]:=by rw [hx];simp [hlt]
  have et:dZ ((a.take (k+1)).map (!·))=dZ ((a.take k).map (!·)) ++ [[eB (!x)]]:=by rw [Ns hlt,<- hx];simp
  have htl:(a.take k).length<=1000000:=by rw [NF];omega
  repeat' first|refine gf (kf @hrow @hlt) ?_|decide|refine sp ?_ ?_<;>intro _|(with_reducible apply And.intro)
  all_goals first
   | rfl
   | omega
   | exact rI (wS [2] et) ⟨k+1,by omega,rfl⟩
 .obtain rfl:k=a.length:=by omega
  repeat' first|refine gf (kf @hlt @NG) ?_|decide|refine sp ?_ ?_<;>intro _
  exact aO (by simp [af.gc])
def sL (op:Int) (x y:Bool):Bool:=if op=18 then !x || y else if op=17 then x || y else x && y
theorem A4 (op:Int) {a b:List Bool} {k:Nat} (h1:k<a.length) (h2:k<b.length):(gD op a b).take (k+1)=(gD op a b).take k ++ [sL op (a.getD k false) (b.getD k false)]:=by
 have h3:k<(gD op a b).length:=by simp [gD];omega
 rw [Ns h3];simp [gD,sL]
theorem Gy (op:Int) (a b:List Bool) (ha:a.length<=1000000) (hb:b.length<=1000000):ax Tryz.prog 58 [eI op,j2 a,j2 b] (ic 4 1 (dZ (gD op a b))):=by
 refine aa ah Tryz.func58 rfl (by decide) Tryz.ntmps58 Tryz.results58 rfl (cB _ _ _) ?_;have hpl:(gD op a b).length=min a.length b.length:=by simp [gD]
 repeat' first|refine go ?_|decide|refine sp ?_ ?_<;>intro _
 refine ae (fun st=>∃ k:Nat,(k<=a.length /\ k<=b.length) /\ st=⟨62,[(0,eI op),(1,j2 a),(2,j2 b),(7,.osl 0),(8,eI (k:Int))],[(0,some (.row 4 1 (dZ ((gD op a b).take k))))],1⟩) (fun st=>a.length - aq st 8) ⟨_,((aR 7 4 1 (by simp only [ia,aj.get,aX,aj.put,↓reduceIte,reduceCtorEq,Nat.reduceLT,Nat.reduceEqDiff,Nat.reduceAdd,Nat.reduceLeDiff,eq_self,implies_true,NJ,N3])).trans (wS [0] @NJ)),0,⟨Nv _,Nv _⟩,rfl⟩ ?_;rintro _ ⟨k,⟨hk,hk2⟩,rfl⟩;by_cases hlt:k<a.length
 .by_cases hlt2:k<b.length
  .obtain ⟨x,hx⟩:∃ x,x=a[k]:=⟨_,rfl⟩;obtain ⟨y,hy⟩:∃ y,y=b[k]:=⟨_,rfl⟩;have hra:(a.map fun b=>[eB b])[k]?.getD []=[eB x]:=by rw [hx];simp [hlt]
   have hrb:(b.map fun b=>[eB b])[k]?.getD []=[eB y]:=by rw [hy];simp [hlt2]
   have ga:a.getD k false=x:=by rw [hx];simp [List.getD,hlt]
   have gb:b.getD k false=y:=by rw [hy];simp [List.getD,hlt2]
   have et:dZ ((gD op a b).take (k+1))=dZ ((gD op a b).take k) ++ [[eB (sL op x y)]]:=by rw [A4 op hlt hlt2,ga,gb];simp
   have htl:((gD op a b).take k).length<=1000000:=by rw [NF];omega
   obtain ⟨T,hT⟩:∃ T,T=(gD op a b).take k:=⟨_,rfl⟩;rw [<- hT] at et htl ⊢;by_cases h7:op=17
   .subst h7;have d1:((17:Int) == 17)=true:=rfl;have d2:((17:Int) == 18)=false:=rfl;cases x<;>cases y<;>simp only [sL] at et
    all_goals
     repeat' first|refine gf (kf @hra (kf @hrb (kf @hlt (kf @hlt2 (kf d1 d2))))) ?_|decide|refine sp ?_ ?_<;>intro _|(with_reducible apply And.intro)
     all_goals first
      | rfl
      | omega
      | exact rI (wS [2] (kf et hT)) ⟨k+1,⟨by omega,by omega⟩,rfl⟩
   .have d1:(op == 17)=false:=(by simpa using h7);by_cases h8:op=18
    .subst h8;have d2:((18:Int) == 18)=true:=rfl;cases x<;>cases y<;>simp only [sL] at et
     all_goals
      repeat' first|refine gf (kf @hra (kf @hrb (kf @hlt (kf @hlt2 (kf d1 d2))))) ?_|decide|refine sp ?_ ?_<;>intro _|(with_reducible apply And.intro)
      all_goals first
       | rfl
       | omega
       | exact rI (wS [2] (kf et hT)) ⟨k+1,⟨by omega,by omega⟩,rfl⟩
    .have d2:(op == 18)=false:=(by simpa using h8);simp only [sL,h7,h8,↓reduceIte] at et;cases x<;>cases y
     all_goals
      repeat' first|refine gf (kf @hra (kf @hrb (kf @hlt (kf @hlt2 (kf d1 d2))))) ?_|decide|refine sp ?_ ?_<;>intro _|(with_reducible apply And.intro)
      all_goals first
       | rfl
       | omega
       | exact rI (wS [2] (kf et hT)) ⟨k+1,⟨by omega,by omega⟩,rfl⟩
  .have e:k=min a.length b.length:=(by omega);have ht:(gD op a b).take k=gD op a b:=NT (by omega);have e2:k=b.length:=(by omega);rw [ht]
   repeat' first|refine gf (kf @hlt @hlt2) ?_|decide|refine sp ?_ ?_<;>intro _
   exact aO (by simp [af.gc])
 .have ht:(gD op a b).take k=gD op a b:=NT (by omega);rw [ht]
  repeat' first|refine gf @hlt ?_|decide|refine sp ?_ ?_<;>intro _
  exact aO (by simp [af.gc])
theorem zT (next:List (List Int)) (a:List Bool) (hx:um next) (ha:a.length<=1000000):ax Tryz.prog 52 [gV next,j2 a] (ic 4 1 (dZ (CG next a))):=by
 refine aa ah Tryz.func52 rfl (by decide) Tryz.ntmps52 Tryz.results52 rfl (cB _ _ _) ?_;have hnl:=hx.len
 repeat' first|refine go ?_|decide|refine sp ?_ ?_<;>intro _
 refine ae (fun st=>∃ k:Nat,k<=next.length /\ st=⟨41,[(0,gV next),(1,j2 a),(5,.osl 0),(6,eI (k:Int))],[(0,some (.row 4 1 (dZ ((next.take k).map (dM a)))))],1⟩) (fun st=>next.length - aq st 6) ⟨_,((aR 5 4 1 (by simp only [ia,aj.get,aX,aj.put,↓reduceIte,reduceCtorEq,Nat.reduceLT,Nat.reduceEqDiff,Nat.reduceAdd,Nat.reduceLeDiff,eq_self,implies_true,NJ,N3])).trans (wS [0] @NJ)),0,Nv _,rfl⟩ ?_;rintro _ ⟨k,hk,rfl⟩;by_cases hlt:k<next.length
 .obtain ⟨q,hq⟩:∃ q,q=next[k]:=⟨_,rfl⟩;have hrow:(uL next)[k]?.getD []=[sI q]:=by rw [hq];simp [uL,hlt]
  have hql:q.length<=4000:=by rw [hq];exact hx.row _ (Nt hlt)
  have et:dZ ((next.take (k+1)).map (dM a))=dZ ((next.take k).map (dM a)) ++ [[eB (dM a q)]]:=by rw [Ns hlt,<- hq];simp
  have htl:(next.take k).length<=200:=by rw [NF];omega
  obtain ⟨T,hT⟩:∃ T,T=(next.take k).map (dM a):=⟨_,rfl⟩;have hTl:T.length<=200:=by rw [hT,NI];exact htl
  rw [<- hT] at et ⊢
  repeat' first|refine ge (kf @hrow @hlt) ?_|decide|refine sp ?_ ?_<;>intro _
  refine ae (fun st=>∃ j:Nat,j<=q.length /\ st=⟨41,[(0,gV next),(1,j2 a),(5,.osl 0),(6,eI (k:Int)),(7,eB (dM a (q.take j))),(8,eI (j:Int))],[(0,some (.row 4 1 (dZ T)))],1⟩) (fun st=>q.length - aq st 8) ⟨_,(wE (kf @NJ (kf @dM.eq_1 @List.all_nil.{0}))),0,Nv _,rfl⟩ ?_;rintro _ ⟨j,hj,rfl⟩;by_cases hlt2:j<q.length
  .obtain ⟨x,hx2⟩:∃ x,x=q[j]:=⟨_,rfl⟩;have hrj:(q.map fun n=>[eI n])[j]?.getD []=[eI x]:=by rw [hx2];simp [hlt2]
   have ea:dM a (q.take (j+1))=(dM a (q.take j) && xp a x):=by
    unfold dM;rw [Ns hlt2,List.all_append,<- hx2];simp
   have hI:=n4 a x (by omega)
   cases hb:dM a (q.take j) with
   | true=>
    rw [hb,Oq] at ea
    repeat' first|refine gf (kf @hrow (kf @hlt (kf @hrj @hlt2))) ?_|decide|refine sp ?_ ?_<;>intro _|refine cA hI ?_|fail
    all_goals exact rI (wE ea) ⟨j+1,by omega,rfl⟩
   | false=>
    rw [hb,Os] at ea
    repeat' first|refine gf (kf @hrow (kf @hlt (kf @hrj @hlt2))) ?_|decide|refine sp ?_ ?_<;>intro _|refine cA hI ?_|fail
    all_goals exact rI (wE ea) ⟨j+1,by omega,rfl⟩
  .obtain rfl:j=q.length:=by omega
   repeat' first|refine gf (kf @hrow (kf @hlt (kf @hlt2 @NG))) ?_|decide|refine sp ?_ ?_<;>intro _|(with_reducible apply And.intro)
   all_goals first
    | rfl
    | omega
    | exact rI (wS [2] (kf et hT)) ⟨k+1,by omega,rfl⟩
 .obtain rfl:k=next.length:=by omega
  repeat' first|refine gf (kf @hlt @NG) ?_|decide|refine sp ?_ ?_<;>intro _
  exact aO (by simp [af.gc,CG])
end
end
section
section
theorem zv (next:List (List Int)) (a b:List Bool) (hx:um next) (ha:a.length<=1000000) (hb:b.length=next.length):ax Tryz.prog 54 [gV next,j2 a,j2 b] (ic 4 1 (dZ (xj next a b))):=by
 refine aa ah Tryz.func54 rfl (by decide) Tryz.ntmps54 Tryz.results54 rfl (cB _ _ _) ?_;have hnl:=hx.len
 repeat' first|refine go ?_|decide|refine sp ?_ ?_<;>intro _
 refine ⟨rfl,by omega,?_⟩;refine ae (fun st=>∃ k:Nat,k<=next.length+1 /\ st=⟨54,[(0,gV next),(1,j2 a),(7,.osl 0),(8,eI (k:Int))],[(0,some (.row 4 1 (dZ (lX next a b k))))],1⟩) (fun st=>next.length+1 - aq st 8) ⟨_,(wS [1] (kf @lX.eq_1 @lX.eq_2)),0,Nv _,rfl⟩ ?_;rintro _ ⟨k,hk,rfl⟩;have hol:(lX next a b k).length=next.length:=by rw [b6,hb]
 by_cases hlt:k<=next.length
 .have hlt2:decide ((k:Int)<=(next.length:Int))=true:=NL (by omega);have hs:lX next a b (k+1)=gB next a (lX next a b k):=rfl;obtain ⟨o,ho⟩:∃ o,o=lX next a b k:=⟨_,rfl⟩;rw [<- ho] at hs hol ⊢;have hev:=zT next o hx (by omega);have hxl:=jz next o;have hnl2:(gB next a o).length=o.length:=by simp [gB]
  have hnx:∀ j,j<o.length -> (gB next a o).getD j false=(o.getD j false || (xp a (j:Int) && (CG next o).getD j false)):=fun j hj=>by
   unfold gB;rw [NA,Nu,Ol hj];rfl
  obtain ⟨X,hX⟩:∃ X,X=CG next o:=⟨_,rfl⟩;rw [<- hX] at hev hxl hnx;obtain ⟨N,hN⟩:∃ N,N=gB next a o:=⟨_,rfl⟩;rw [<- hN] at hs hnl2 hnx
  repeat' first|refine ge (kf @hlt @hlt2) ?_|decide|refine sp ?_ ?_<;>intro _
  refine ce hev (.inr (aP _)) ?_
  repeat' first|refine go ?_|decide|refine sp ?_ ?_<;>intro _
  refine ae (fun st=>∃ j:Nat,j<=o.length /\ st=⟨54,[(0,gV next),(1,j2 a),(7,.osl 0),(8,eI (k:Int)),(9,.osl 1),(10,eI (j:Int))],[(0,some (.row 4 1 (dZ (bv N o j)))),(1,some (.row 4 1 (dZ X)))],2⟩) (fun st=>o.length - aq st 10) ⟨_,(wE (kf @bv.eq_1 (kf @NJ @List.drop_zero.{0}))),0,Nv _,rfl⟩ ?_;rintro _ ⟨j,hj,rfl⟩;have hul:=dh hnl2 hj;by_cases hlt3:j<o.length
  .have d1:decide ((j:Int)<((bv N o j).length:Int))=true:=NL (by omega);have d2:decide ((j:Int)<(X.length:Int))=true:=NL (by omega);have d3:j<(bv N o j).length:=(by omega);have d4:j<X.length:=(by omega);have r1:=io hnl2 hlt3;have r2:(dZ X)[j]?.getD []=[eB (X.getD j false)]:=(by simp [List.getD,d4]);have hset:=gi hnl2 hlt3;have hI:=n4 a (j:Int) (by omega);rw [hnx j hlt3] at hset;obtain ⟨v,hv⟩:∃ v,v=X.getD j false:=⟨_,rfl⟩;obtain ⟨u,hu⟩:∃ u,u=o.getD j false:=⟨_,rfl⟩;obtain ⟨t,ht⟩:∃ t,t=xp a (j:Int):=⟨_,rfl⟩;rw [<- hv] at r2 hset;rw [<- hu] at r1 hset;rw [<- ht] at hI hset;cases u<;>cases t<;>simp only [Bool.true_or,PX,Oq,Os] at hset
   all_goals
    repeat' first|refine gf (kf d1 (kf d2 (kf d3 (kf d4 (kf r1 (kf r2 @hset)))))) ?_|decide|refine sp ?_ ?_<;>intro _|refine cA hI ?_|fail
    all_goals exact rI (wE @hset) ⟨j+1,by omega,rfl⟩
  .obtain rfl:j=o.length:=by omega
   have d1:decide ((o.length:Int)<((bv N o o.length).length:Int))=false:=NE (by omega);have e1:bv N o o.length=N:=(by simp [bv,NT (Nat.le_of_eq hnl2)]);have d2:¬ o.length<N.length:=(by omega);rw [e1] at d1 ⊢
   repeat' first|refine gf (kf d1 d2) ?_|decide|refine sp ?_ ?_<;>intro _
   all_goals exact rI (wE hs) ⟨k+1,by omega,rfl⟩
 .obtain rfl:k=next.length+1:=by omega
  have hlt2:decide (((next.length+1:Nat):Int)<=(next.length:Int))=false:=NE (by omega);have hlt3:¬ next.length+1<=next.length:=by omega
  repeat' first|refine ge (kf @hlt2 @hlt3) ?_|decide|refine sp ?_ ?_<;>intro _
  all_goals exact aO (by simp [af.gc,xj])
theorem iZ {e:TypeId} {sz:Nat} {rows:List (List AV)} {st:aj} {id:Nat} (hg:st.tab.get id=some (.row e sz rows)):∃ R,uh e sz rows R /\ R.Ok /\ dw R st (.osl id):=qW hg (.inl rfl)
theorem Mq {e:TypeId} {sz:Nat} {rows:List (List AV)} {st:aj}:∃ R,uh e sz rows R /\ R.Ok /\ dw R st (.sl sz rows):=
 ⟨_,.inr rfl,⟨fun id o h=>(by cases h),trivial⟩,aU (by simp [AV.ren])⟩
theorem lG (s:IO0) (a:List Bool):dU (s ++ [a])=a:=by simp [dU]
theorem rS {α:Type} (s:List α):s.dropLast=s.take (s.length - 1):=List.dropLast_eq_take
theorem k0:(((0:Nat):Int) == 0)=true:=rfl
theorem k1:(((1:Nat):Int) == 0)=false:=rfl
theorem k2:(((2:Nat):Int) == 0)=false:=rfl
theorem t0:Int.toNat 0=0:=rfl
theorem t1:Int.toNat 1=1:=rfl
theorem iC:(0:Int)<((1:Nat):Int):=by decide
theorem je:(0:Int)<((2:Nat):Int):=by decide
theorem jf:(1:Int)<((2:Nat):Int):=by decide
theorem y5 (l:List al) (next:List (List Int)) (at_:al -> List Bool) (e:Nat) (hx:um next) (hrow:bq (l.map al.op) 0=some e) (hat:∀ x ∈ l,aC x.op=0 -> (at_ x).length=next.length) (hl:l.length<=64) :
  ∀ (n q:Nat),q<n -> q<l.length -> ax Tryz.prog 17 [.sl 9 ((l.map al.op).map lF),eI (q:Int),gV next,.sl 1 (cN (l.map at_))] ⟨j2 (dU (ct next at_ (l.take (q+1)))),[],0⟩
 | 0,q,h,_=>absurd h (by omega)
 | n+1,q,hn,hq=>by
  refine jT 4 ?_;refine aM ah Tryz.func17 rfl (by decide) Tryz.ntmps17 Tryz.results17 rfl ?_;have hnl:=hx.len;have ih:=y5 l next at_ e hx hrow hat hl n;have hol:(l.map al.op).length=l.length:=NI _;have hK:=LZ (l.map al.op) q (by omega) (by omega);obtain ⟨g1,g2⟩:=kU hrow hat q (by omega);obtain ⟨d,h3,d',h4,h5⟩:=pB hrow hq;rw [g2] at h3;cases h3;rw [iQ hq];obtain ⟨x,hx2⟩:∃ x,x=l[q]:=⟨_,rfl⟩;have hg:(l.map al.op).getD q 0=x.op:=by rw [hx2];simp [List.getD,hq]
  have hri:((l.map al.op).map lF)[q]?.getD []=lF x.op:=by rw [hx2];simp [hq]
  have hrs:(cN (l.map at_))[q]?.getD []=[j2 (at_ x)]:=by rw [hx2];simp [cN,hq]
  rw [<- hx2] at h4 ⊢;unfold DQ at hK;rw [hg] at hK
  have hsl:(ct next at_ (l.take q)).length<=64:=by
   have:=Al _ _ _ g2;simp at this;omega
  have hC:=Im next.length true (by omega);rcases kM h4 with ⟨e1,_⟩|⟨e1,e2,_⟩|⟨e1,e2,_⟩
  .rw [ND e1] at hK;have hs:gG next at_ (ct next at_ (l.take q)) x=ct next at_ (l.take q) ++ [at_ x]:=(by rw [gG,Ny (by omega),Ny (by omega)]);rw [hs,lG]
   repeat' first|refine gf (kf @hrs (kf hq k0)) ?_|decide|refine sp ?_ ?_<;>intro _|refine cA hK ?_|fail
   all_goals exact Mq
  .rw [Ny (by omega),ND e1] at hK
   have hq1:1<=q:=by
    by_cases h0:q=0
    .subst h0;simp [ct] at e2
    .omega
   have hs:gG next at_ (ct next at_ (l.take q)) x=(ct next at_ (l.take q)).dropLast ++ [mb next x.op (dU (ct next at_ (l.take q)))]:=(by rw [gG,ND e1]);rw [hs,lG];have hA:=ih (q - 1) (by omega) (by omega);rw [show q - 1+1=q by omega,show ((q - 1:Nat):Int)=(q:Int) - 1 by omega] at hA;have hal:=g1 _ (el e2);obtain ⟨a,ha⟩:∃ a,a=dU (ct next at_ (l.take q)):=⟨_,rfl⟩;rw [<- ha] at hA hal ⊢;have hN:=DR a (by omega);have hE:=zT next a hx (by omega);have hX:=EV next a hx (by omega);have hG:=MS next a hx (by omega);have hT:(List.replicate next.length true).length=next.length:=(by simp);have hU:=DM next (List.replicate next.length true) a hx (by omega) (by omega);have hL:=zv next (List.replicate next.length true) a hx (by omega) hal;have hU2:=DM next (List.replicate next.length true) (a.map (!·)) hx (by omega) (by rw [NI];omega);have hN2:=DR (BK next (List.replicate next.length true) (a.map (!·))) (by rw [dy];omega);clear ih;rcases AR e1 with ho|ho|ho|ho|ho|ho|ho;all_goals rw [ho] at hri ⊢
   .repeat' first|refine go ?_|simp only [hri,hq,Int.reduceBEq,k1,t0,iC]|decide|refine sp ?_ ?_<;>intro _
    refine bI hK (ro) ?_
    repeat' first|refine go ?_|simp only [hri,hq,Int.reduceBEq,k1,t0,iC]|decide|refine sp ?_ ?_<;>intro _
    refine bI hA (ro) ?_
    repeat' first|refine go ?_|simp only [hri,hq,Int.reduceBEq,k1,t0,iC]|decide|refine sp ?_ ?_<;>intro _
    refine ce hN (.inr (aP _)) ?_
    repeat' first|refine go ?_|decide|refine sp ?_ ?_<;>intro _
    exact iZ (by simp [af.gc,mb])
   .repeat' first|refine go ?_|simp only [hri,hq,Int.reduceBEq,k1,t0,iC]|decide|refine sp ?_ ?_<;>intro _
    refine bI hK (ro) ?_
    repeat' first|refine go ?_|simp only [hri,hq,Int.reduceBEq,k1,t0,iC]|decide|refine sp ?_ ?_<;>intro _
    refine bI hA (ro) ?_
    repeat' first|refine go ?_|simp only [hri,hq,Int.reduceBEq,k1,t0,iC]|decide|refine sp ?_ ?_<;>intro _
    refine ce hE (.inr (aP _)) ?_
    repeat' first|refine go ?_|decide|refine sp ?_ ?_<;>intro _
    exact iZ (by simp [af.gc,mb])
   .repeat' first|refine go ?_|simp only [hri,hq,Int.reduceBEq,k1,t0,iC]|decide|refine sp ?_ ?_<;>intro _
    refine bI hK (ro) ?_
    repeat' first|refine go ?_|simp only [hri,hq,Int.reduceBEq,k1,t0,iC]|decide|refine sp ?_ ?_<;>intro _
    refine bI hA (ro) ?_
    repeat' first|refine go ?_|simp only [hri,hq,Int.reduceBEq,k1,t0,iC]|decide|refine sp ?_ ?_<;>intro _
    refine ce hX (.inr (aP _)) ?_
    repeat' first|refine go ?_|decide|refine sp ?_ ?_<;>intro _
    exact iZ (by simp [af.gc,mb])
   .repeat' first|refine go ?_|simp only [hri,hq,Int.reduceBEq,k1,t0,iC]|decide|refine sp ?_ ?_<;>intro _
    refine bI hK (ro) ?_
    repeat' first|refine go ?_|simp only [hri,hq,Int.reduceBEq,k1,t0,iC]|decide|refine sp ?_ ?_<;>intro _
    refine bI hA (ro) ?_
    repeat' first|refine go ?_|simp only [hri,hq,Int.reduceBEq,k1,t0,iC]|decide|refine sp ?_ ?_<;>intro _
    refine ce hC (.inr (aP _)) ?_
    repeat' first|refine go ?_|decide|refine sp ?_ ?_<;>intro _
    refine ce hL (.inr (aP _)) ?_
    repeat' first|refine go ?_|decide|refine sp ?_ ?_<;>intro _
    exact iZ (by simp [af.gc,mb])
   .repeat' first|refine go ?_|simp only [hri,hq,Int.reduceBEq,k1,t0,iC]|decide|refine sp ?_ ?_<;>intro _
    refine bI hK (ro) ?_
    repeat' first|refine go ?_|simp only [hri,hq,Int.reduceBEq,k1,t0,iC]|decide|refine sp ?_ ?_<;>intro _
    refine bI hA (ro) ?_
    repeat' first|refine go ?_|simp only [hri,hq,Int.reduceBEq,k1,t0,iC]|decide|refine sp ?_ ?_<;>intro _
    refine ce hC (.inr (aP _)) ?_
    repeat' first|refine go ?_|decide|refine sp ?_ ?_<;>intro _
    refine ce hU (.inr (aP _)) ?_
    repeat' first|refine go ?_|decide|refine sp ?_ ?_<;>intro _
    exact iZ (by simp [af.gc,mb])
   .repeat' first|refine go ?_|simp only [hri,hq,Int.reduceBEq,k1,t0,iC]|decide|refine sp ?_ ?_<;>intro _
    refine bI hK (ro) ?_
    repeat' first|refine go ?_|simp only [hri,hq,Int.reduceBEq,k1,t0,iC]|decide|refine sp ?_ ?_<;>intro _
    refine bI hA (ro) ?_
    repeat' first|refine go ?_|simp only [hri,hq,Int.reduceBEq,k1,t0,iC]|decide|refine sp ?_ ?_<;>intro _
    refine ce hC (.inr (aP _)) ?_
    repeat' first|refine go ?_|decide|refine sp ?_ ?_<;>intro _
    refine ce hN (.inr (aP _)) ?_
    repeat' first|refine go ?_|decide|refine sp ?_ ?_<;>intro _
    refine ce hU2 (.inr (aP _)) ?_
    repeat' first|refine go ?_|decide|refine sp ?_ ?_<;>intro _
    refine ce hN2 (.inr (aP _)) ?_
    repeat' first|refine go ?_|decide|refine sp ?_ ?_<;>intro _
    exact iZ (by simp [af.gc,mb])
   .repeat' first|refine go ?_|simp only [hri,hq,Int.reduceBEq,k1,t0,iC]|decide|refine sp ?_ ?_<;>intro _
    refine bI hK (ro) ?_
    repeat' first|refine go ?_|simp only [hri,hq,Int.reduceBEq,k1,t0,iC]|decide|refine sp ?_ ?_<;>intro _
    refine bI hA (ro) ?_
    repeat' first|refine go ?_|simp only [hri,hq,Int.reduceBEq,k1,t0,iC]|decide|refine sp ?_ ?_<;>intro _
    refine ce hG (.inr (aP _)) ?_
    repeat' first|refine go ?_|decide|refine sp ?_ ?_<;>intro _
    exact iZ (by simp [af.gc,mb])
  .rw [Ny (by omega),Ny (by omega)] at hK
   have hq1:1<=q:=by
    by_cases h0:q=0
    .subst h0;simp [ct] at e2
    .omega
   have hs:gG next at_ (ct next at_ (l.take q)) x=(ct next at_ (l.take q)).dropLast.dropLast ++ [nL next x.op (dU (ct next at_ (l.take q)).dropLast) (dU (ct next at_ (l.take q)))]:=(by rw [gG,Ny (by omega),ND e1]);rw [hs,lG];obtain ⟨b,b1,b2,b3⟩:=qZ (l.map al.op) q 1 (ct next at_ (l.take q)).length (by omega) (Nz _) (by omega) (by rw [<- List.map_take];exact g2);obtain ⟨_,b4⟩:=px hrow hat q 1 b (by omega) (Nz _) (by omega) b1;rw [<- rS] at b4
   have b0:1<=b:=by
    by_cases h0:b=0
    .subst h0;simp [bq] at b3;omega
    .omega
   have hA:=ih (b - 1) (by omega) (by omega);rw [show b - 1+1=b by omega,show ((b - 1:Nat):Int)=(b:Int) - 1 by omega,b4] at hA;have hB:=ih (q - 1) (by omega) (by omega);rw [show q - 1+1=q by omega,show ((q - 1:Nat):Int)=(q:Int) - 1 by omega] at hB;rw [b1] at hK;have hal:=g1 _ (oh (el (s:=(ct next at_ (l.take q)).dropLast) (by simp;omega)));have hbl:=g1 _ (el (by omega));obtain ⟨u,hu⟩:∃ u,u=dU (ct next at_ (l.take q)).dropLast:=⟨_,rfl⟩;obtain ⟨v,hv⟩:∃ v,v=dU (ct next at_ (l.take q)):=⟨_,rfl⟩;rw [<- hu] at hA hal ⊢;rw [<- hv] at hB hbl ⊢;have hL:=zv next u v hx (by omega) hbl;have hU:=DM next u v hx (by omega) (by omega);have hP:=Gy x.op u v (by omega) (by omega);clear ih;rcases AJ e1 with ho|ho|ho|ho|ho;all_goals rw [ho] at hri hP ⊢
   .repeat' first|refine go ?_|simp only [hri,hq,Int.reduceBEq,k2,t0,t1,je,jf]|decide|refine sp ?_ ?_<;>intro _
    refine bI hK (ro) ?_
    repeat' first|refine go ?_|simp only [hri,hq,Int.reduceBEq,k2,t0,t1,je,jf]|decide|refine sp ?_ ?_<;>intro _
    refine bI hA (ro) ?_
    repeat' first|refine go ?_|simp only [hri,hq,Int.reduceBEq,k2,t0,t1,je,jf]|decide|refine sp ?_ ?_<;>intro _
    refine ⟨by decide,?_⟩;refine bI hB (ro) ?_
    repeat' first|refine go ?_|simp only [hri,hq,Int.reduceBEq,k2,t0,t1,je,jf]|decide|refine sp ?_ ?_<;>intro _
    refine ce hP (.inr (aP _)) ?_
    repeat' first|refine go ?_|decide|refine sp ?_ ?_<;>intro _
    exact iZ (by simp [af.gc,nL])
   .repeat' first|refine go ?_|simp only [hri,hq,Int.reduceBEq,k2,t0,t1,je,jf]|decide|refine sp ?_ ?_<;>intro _
    refine bI hK (ro) ?_
    repeat' first|refine go ?_|simp only [hri,hq,Int.reduceBEq,k2,t0,t1,je,jf]|decide|refine sp ?_ ?_<;>intro _
    refine bI hA (ro) ?_
    repeat' first|refine go ?_|simp only [hri,hq,Int.reduceBEq,k2,t0,t1,je,jf]|decide|refine sp ?_ ?_<;>intro _
    refine ⟨by decide,?_⟩;refine bI hB (ro) ?_
    repeat' first|refine go ?_|simp only [hri,hq,Int.reduceBEq,k2,t0,t1,je,jf]|decide|refine sp ?_ ?_<;>intro _
    refine ce hP (.inr (aP _)) ?_
    repeat' first|refine go ?_|decide|refine sp ?_ ?_<;>intro _
    exact iZ (by simp [af.gc,nL])
   .repeat' first|refine go ?_|simp only [hri,hq,Int.reduceBEq,k2,t0,t1,je,jf]|decide|refine sp ?_ ?_<;>intro _
    refine bI hK (ro) ?_
    repeat' first|refine go ?_|simp only [hri,hq,Int.reduceBEq,k2,t0,t1,je,jf]|decide|refine sp ?_ ?_<;>intro _
    refine bI hA (ro) ?_
    repeat' first|refine go ?_|simp only [hri,hq,Int.reduceBEq,k2,t0,t1,je,jf]|decide|refine sp ?_ ?_<;>intro _
    refine ⟨by decide,?_⟩;refine bI hB (ro) ?_
    repeat' first|refine go ?_|simp only [hri,hq,Int.reduceBEq,k2,t0,t1,je,jf]|decide|refine sp ?_ ?_<;>intro _
    refine ce hP (.inr (aP _)) ?_
    repeat' first|refine go ?_|decide|refine sp ?_ ?_<;>intro _
    exact iZ (by simp [af.gc,nL])
   .repeat' first|refine go ?_|simp only [hri,hq,Int.reduceBEq,k2,t0,t1,je,jf]|decide|refine sp ?_ ?_<;>intro _
    refine bI hK (ro) ?_
    repeat' first|refine go ?_|simp only [hri,hq,Int.reduceBEq,k2,t0,t1,je,jf]|decide|refine sp ?_ ?_<;>intro _
    refine bI hA (ro) ?_
    repeat' first|refine go ?_|simp only [hri,hq,Int.reduceBEq,k2,t0,t1,je,jf]|decide|refine sp ?_ ?_<;>intro _
    refine ⟨by decide,?_⟩;refine bI hB (ro) ?_
    repeat' first|refine go ?_|simp only [hri,hq,Int.reduceBEq,k2,t0,t1,je,jf]|decide|refine sp ?_ ?_<;>intro _
    refine ce hL (.inr (aP _)) ?_
    repeat' first|refine go ?_|decide|refine sp ?_ ?_<;>intro _
    exact iZ (by simp [af.gc,nL])
   .repeat' first|refine go ?_|simp only [hri,hq,Int.reduceBEq,k2,t0,t1,je,jf]|decide|refine sp ?_ ?_<;>intro _
    refine bI hK (ro) ?_
    repeat' first|refine go ?_|simp only [hri,hq,Int.reduceBEq,k2,t0,t1,je,jf]|decide|refine sp ?_ ?_<;>intro _
    refine bI hA (ro) ?_
    repeat' first|refine go ?_|simp only [hri,hq,Int.reduceBEq,k2,t0,t1,je,jf]|decide|refine sp ?_ ?_<;>intro _
    refine ⟨by decide,?_⟩;refine bI hB (ro) ?_
    repeat' first|refine go ?_|simp only [hri,hq,Int.reduceBEq,k2,t0,t1,je,jf]|decide|refine sp ?_ ?_<;>intro _
    refine ce hU (.inr (aP _)) ?_
    repeat' first|refine go ?_|decide|refine sp ?_ ?_<;>intro _
    exact iZ (by simp [af.gc,nL])
end
section
theorem zH (l:List al) (hl:l.length<=70):ax Tryz.prog 5 [a7 l] ⟨.sl 9 ((l.map al.op).map lF),[],0⟩:=
 ax.still [0] (HL l hl) (by simp [cG.frzs,cG.frz,ic,af.gc,AV.frz]) (by simp [AV.lt])
noncomputable def cZ (m:bb) (c:List Int) (nds:List Nd) (x:al):List Bool:=nds.map fun n=>xk m c n x
theorem Ba {ops:List Int} (h:sm ops=0):bq ops 0=some 1 /\ 0<ops.length /\ ops.length<=64:=by
 unfold sm at h;split at h
 .cases h
 .split at h
  .cases h
  .split at h
   .rename_i h1 h2 h3;exact ⟨(Bv ops h1 (by omega)).1 h3,by omega,by omega⟩
   .cases h
end
section
theorem bu:um []:=⟨by decide,by simp,by simp⟩
end
section
theorem mS {α:Type} [DecidableEq α]:∀ (l p:List α),l.Nodup -> (∀ x ∈ l,x ∈ p) -> l.length<=p.length
 | [],_,_,_=>Nv _
 | x :: l,p,hn,hs=>by
  rw [List.nodup_cons] at hn;have hx:x ∈ p:=hs x Ob;have h1:=mS l (p.erase x) hn.2 fun y hy=>(List.mem_erase_of_ne (fun e:y=x=>hn.1 (by rw [<- e];exact hy))).2 (hs y (N7 _ hy));rw [PJ hx] at h1;have:=List.length_pos_of_mem hx;rw [NZ];omega
theorem vg {α:Type} [DecidableEq α] (l:List α):(bM l).Nodup:=by
 have key:∀ k,k<=l.length -> (bM (l.take k)).Nodup:=fun k=>by
  induction k with
  | zero=>intro _;simp [bM]
  | succ k ih=>
   intro hk;have h:=ih (by omega);rw [jn (by omega)];split
   .exact h
   .rename_i hm;rw [List.nodup_append];refine ⟨h,by simp,fun a ha b hb=>?_⟩;simp only [NR] at hb;rw [hb];exact fun e=>hm (e ▸ ha)
 have:=key l.length (Nz _)
 rwa [NG] at this
theorem xU {m:bb} {c:List Int} {n:Nd} {k:Nat} {s:Sn} (h:s ∈ cM m c n k):∃ e u:Nat,e<k /\ u<m.users.length /\ s.ev=(e:Int) /\ s.us=(u:Int):=by
 obtain ⟨e,he,h1⟩:=Ow.1 h;obtain ⟨u,hu,h2⟩:=Ow.1 h1;obtain ⟨z,_,rfl⟩:=NC.1 h2;have:=k8 hu;exact ⟨e,u.toNat,Pc.1 he,by omega,rfl,by show u=_;omega⟩
theorem vB {m:bb} {c:List Int} {n:Nd} (hE:gE m c) {N:List Nd} (hN:∀ s ∈ i6 m c n,s.nd ∈ N):(i6 m c n).length<=24 * N.length+1:=by
 unfold i6 at hN ⊢;split
 .rename_i hP;rw [ND hP] at hN
  have h1:=mS (bM (cM m c n m.events.length)) ((List.range 6).flatMap fun e=>(List.range 4).flatMap fun u=>N.map fun x=>(⟨((e:Nat):Int),((u:Nat):Int),x⟩:Sn)) (vg _) fun s hs=>by
   have hsN:=hN s (List.mem_append_left _ hs);rw [kN] at hs;obtain ⟨e,u,he,hu,h2,h3⟩:=xU hs;have h4:=hE.ck.chk.events;have h5:=hE.ck.chk.users;refine Ow.2 ⟨e,Pc.2 (by omega),Ow.2 ⟨u,Pc.2 (by omega),NC.2 ⟨s.nd,hsN,?_⟩⟩⟩;rw [<- h2,<- h3]
  have h6:((List.range 6).flatMap fun e=>(List.range 4).flatMap fun u=>N.map fun x=>(⟨((e:Nat):Int),((u:Nat):Int),x⟩:Sn)).length<=6 * (4 * N.length):=by
   have:=f5 (fun e:Nat=>(List.range 4).flatMap fun u=>N.map fun x=>(⟨((e:Nat):Int),((u:Nat):Int),x⟩:Sn)) (4 * N.length) (List.range 6) fun e _=>by
    have:=f5 (fun u:Nat=>N.map fun x=>(⟨((e:Nat):Int),((u:Nat):Int),x⟩:Sn)) N.length (List.range 4) fun u _=>by simp
    simpa using this
   simpa using this
  rw [NB];split
  .simp only [Ps];omega
  .simp only [N4];omega
 .exact Nv _
section
variable {m:bb} {c:List Int} {N:List Nd} {E:List (List uq)}
theorem Jf (hX:vx m c N E N.length):1<=N.length:=by
 have:=(Nw.1 hX.first).1;omega
theorem Bj (hX:vx m c N E N.length) {n:Nd} (hn:n ∈ N):∀ s ∈ i6 m c n,s.nd ∈ N:=by
 intro s hs;obtain ⟨i,hi,rfl⟩:=NV hn;obtain ⟨j,hj,rfl⟩:=NV hs;have hr:=hX.rows i hi (by rw [hX.len];exact hi);obtain ⟨_,_,_,h⟩:=hr.2 j hj (by rw [hr.1];exact hj);exact Nr h
theorem GB (hX:vx m c N E N.length) (hE:gE m c) (h120:N.length<=160):um (bm E) /\ L9 (bm E) /\ (bm E).length=N.length:=by
 have hl:(bm E).length=N.length:=by simp [bm,hX.len]
 have hd:∀ r ∈ bm E,r.length<=4000 /\ ∀ x ∈ r,0<=x /\ x<(N.length:Int):=fun r hr=>by
  obtain ⟨q,hq,rfl⟩:=NC.1 hr;obtain ⟨i,hi,rfl⟩:=NV hq;have hi2:i<N.length:=by rw [<- hX.len];exact hi
  have h1:=hX.rows i hi2 hi;have h2:=vB hE (Bj hX (Nt hi2));refine ⟨by rw [NI,h1.1];omega,fun x hx=>?_⟩;obtain ⟨e,he,rfl⟩:=NC.1 hx;obtain ⟨j,hj,rfl⟩:=NV he;obtain ⟨_,_,h3,h4⟩:=h1.2 j (by rw [<- h1.1];exact hj) hj;have:=(Nw.1 h4).1;omega
 refine ⟨⟨by omega,fun r hr=>(hd r hr).1,fun r hr x hx=>?_⟩,fun r hr x hx=>?_,hl⟩
 .have:=(hd r hr).2 x hx;unfold aB;omega
 .rw [hl];exact (hd r hr).2 x hx
end
end
end
section
section
theorem Gn (nds:List Nd) (es:List (List uq)) (he:es.length<=200) (hee:∀ r ∈ es,r.length<=1000000):ax Tryz.prog 12 [.agg [.sl 6 (nds.map fG),.sl 1 (ja es)]] ⟨gV (bm es),[],0⟩:=by
 refine fc 50 ?_;refine aM ah Tryz.func12 rfl (by decide) Tryz.ntmps12 Tryz.results12 rfl ?_
 repeat' first|refine go ?_|decide|refine sp ?_ ?_<;>intro _
 refine ae (fun st=>∃ k:Nat,k<=es.length /\ st=⟨41,[(1,.op 0 0 0),(3,.osl 1),(4,eI (k:Int))],[(0,some (.box 44 [.sl 6 (nds.map fG),.sl 1 (ja es)])),(1,some (.row 50 1 (uL (bm (es.take k)))))],2⟩) (fun st=>es.length - aq st 4) ⟨_,((aR 3 50 1 (by simp only [ia,aj.get,aX,aj.put,↓reduceIte,reduceCtorEq,Nat.reduceLT,Nat.reduceEqDiff,Nat.reduceAdd,Nat.reduceLeDiff,eq_self,implies_true,bm,uL,NJ])).trans (wS [0,1] (kf @bm.eq_1 (kf @uL.eq_1 @NJ)))),0,Nv _,rfl⟩ ?_;rintro _ ⟨k,hk,rfl⟩;by_cases hlt:k<es.length
 .have hrk:=hee _ (Nt hlt);obtain ⟨q,hq⟩:∃ q,q=es[k]:=⟨_,rfl⟩;have hrow2:(ja es)[k]?.getD []=[.sl 3 (q.map Gu)]:=by rw [hq];simp [ja,hlt]
  have et:uL (bm (es.take (k+1)))=uL (bm (es.take k)) ++ [[.sl 1 (q.map fun e=>[eI e.dst])]]:=by
   rw [Ns hlt,<- hq];simp [uL,bm,sI,Function.comp_def]
  have htl:(uL (bm (es.take k))).length<=200:=by simp [uL,bm];omega
  rw [<- hq] at hrk;obtain ⟨E,hE⟩:∃ E,E=uL (bm (es.take k)):=⟨_,rfl⟩;rw [<- hE] at et htl ⊢
  repeat' first|refine gf (kf @hrow2 @hlt) ?_|decide|refine sp ?_ ?_<;>intro _
  refine ae (fun st=>∃ j:Nat,j<=q.length /\ st=⟨41,[(1,.op 0 0 0),(3,.osl 1),(4,eI (k:Int)),(5,.osl 2),(6,eI (j:Int))],[(0,some (.box 44 [.sl 6 (nds.map fG),.sl 1 (ja es)])),(1,some (.row 50 1 E)),(2,some (.row 3 1 ((q.take j).map fun e=>[eI e.dst])))],3⟩) (fun st=>q.length - aq st 6) ⟨_,((aR 5 3 1 (by simp only [ia,aj.get,aX,aj.put,↓reduceIte,reduceCtorEq,Nat.reduceLT,Nat.reduceEqDiff,Nat.reduceAdd,Nat.reduceLeDiff,eq_self,implies_true,NJ])).trans (wS [0,1,2] @NJ)),0,Nv _,rfl⟩ ?_;rintro _ ⟨j,hj,rfl⟩;by_cases hlt2:j<q.length
  .have et2:(q.take (j+1)).map (fun e=>[eI e.dst])=(q.take j).map (fun e=>[eI e.dst]) ++ [[eI q[j].dst]]:=eh _ _ hlt2;have htl2:(q.take j).length<=1000000:=by rw [NF];omega
   obtain ⟨x,hx2⟩:∃ x,x=q[j]:=⟨_,rfl⟩;have hrx:(q.map Gu)[j]?.getD []=Gu x:=by rw [hx2];simp [hlt2]
   rw [<- hx2] at et2
   repeat' first|refine gf (kf @hrow2 (kf @hlt (kf @hlt2 @hrx))) ?_|decide|refine sp ?_ ?_<;>intro _|(with_reducible apply And.intro)
   all_goals first
    | rfl
    | omega
    | exact rI (wS [0,1,4] et2) ⟨j+1,by omega,rfl⟩
  .obtain rfl:j=q.length:=by omega
   repeat' first|refine gf (kf @hrow2 (kf @hlt (kf @hlt2 @NG))) ?_|decide|refine sp ?_ ?_<;>intro _|(with_reducible apply And.intro)
   all_goals first
    | rfl
    | omega
    | exact rI (wS [0,4] (kf et hE)) ⟨k+1,by omega,rfl⟩
 .obtain rfl:k=es.length:=by omega
  repeat' first|refine gf (kf @hlt @NG) ?_|decide|refine sp ?_ ?_<;>intro _
  all_goals exact qW rfl gc
theorem C2 (l:List Int) (n:Int) (hl:l.length<=1000000) (hm:n ∈ l):ax Tryz.prog 46 [sI l,eI n] (val (.int .i64 (l.idxOf n:Int))):=by
 refine aa ah Tryz.func46 rfl (by decide) Tryz.ntmps46 Tryz.results46 rfl (aH _) ?_
 repeat' first|refine go ?_|decide|refine sp ?_ ?_<;>intro _
 refine ae (fun st=>∃ k:Nat,k<=l.length /\ n ∉ l.take k /\ st=⟨19,[(0,sI l),(1,eI n),(7,eI (l.length:Int)),(8,eI (k:Int))],[],0⟩) (fun st=>l.length - aq st 8) ⟨_,wC,0,Nv _,by simp,rfl⟩ ?_;rintro _ ⟨k,hk,hn,rfl⟩;by_cases hlt:k<l.length
 .obtain ⟨x,hx⟩:∃ x,x=l[k]:=⟨_,rfl⟩;have hrx:(ip l)[k]?.getD []=[eI x]:=by rw [hx];simp [hlt]
  by_cases he:n=x
  .have d0:(n == x)=true:=(by simp [he]);have hix:=zm hlt (by rw [<- hx];exact he.symm) hn
   repeat' first|refine ge (kf @hrx (kf @hlt (kf d0 @hix))) ?_|decide|refine sp ?_ ?_<;>intro _
  .have d0:(n == x)=false:=by simp [he]
   repeat' first|refine ge (kf @hrx (kf @hlt d0)) ?_|decide|refine sp ?_ ?_<;>intro _
   refine rI wC ⟨k+1,by omega,fun h=>?_,rfl⟩;rw [Ns hlt,NK,NR,<- hx] at h;exact h.elim hn he
 .obtain rfl:k=l.length:=by omega
  rw [NG] at hn;exact absurd hm hn
theorem Bf (g:FuncId) (caps:List AV) (l:List Int) (hl:l.length<=1000000) (ht:bV caps) (hp:∀ x ∈ l,ax Tryz.prog g (eI x :: caps) (val (.bool false))):ax Tryz.prog 98 [sI l,.fn g caps] (val (.int .i64 (-1))):=by
 refine aa ah Tryz.func98 rfl (by decide) Tryz.ntmps98 Tryz.results98 rfl (aH _) ?_;have hlt0:AV.ltL 0 caps:=wu ht
 repeat' first|refine go ?_|decide|refine sp ?_ ?_<;>intro _
 refine ae (fun st=>∃ k:Nat,k<=l.length /\ st=⟨19,[(0,sI l),(1,.fn g caps),(7,eI (l.length:Int)),(8,eI (k:Int))],[],0⟩) (fun st=>l.length - aq st 8) ⟨_,(wE @hlt0),0,Nv _,rfl⟩ ?_;rintro _ ⟨k,hk,rfl⟩;by_cases hlt:k<l.length
 .obtain ⟨x,hx⟩:∃ x,x=l[k]:=⟨_,rfl⟩;have hrx:(ip l)[k]?.getD []=[eI x]:=by rw [hx];simp [hlt]
  have hpx:=hp x (hx ▸ Nt hlt)
  repeat' first|refine ge (kf @hrx @hlt) ?_|decide|refine sp ?_ ?_<;>intro _
  refine Il (args:=[_]) ht hpx ?_
  repeat' first|refine ge (kf @hrx @hlt) ?_|decide|refine sp ?_ ?_<;>intro _
  exact rI (wE @hlt0) ⟨k+1,by omega,rfl⟩
 .obtain rfl:k=l.length:=by omega
  repeat' first|refine ge @hlt ?_|decide|refine sp ?_ ?_<;>intro _
theorem yn (g:FuncId) (caps:List AV) (l:List Int) (hl:l.length<=1000000) (ht:bV caps) (hp:∀ x ∈ l,ax Tryz.prog g (eI x :: caps) (val (.bool false))):ax Tryz.prog 47 [sI l,.fn g caps] ⟨sI l,[],0⟩:=by
 refine aa ah Tryz.func47 rfl (by decide) Tryz.ntmps47 Tryz.results47 rfl (⟨fun id o h=>(by cases h),trivial⟩) ?_;have z1:((-1:Int) == -1)=true:=rfl
 repeat' first|refine go ?_|decide|refine sp ?_ ?_<;>intro _
 refine aw (by simp only [Oz,N3,fE];rw [show caps.map (gm [])=caps from oW ht];exact Bf g caps l hl ht hp) ?_
 repeat' first|refine ge z1 ?_|decide|refine sp ?_ ?_<;>intro _
 exact tl rfl
theorem Kt (x n:Int) (h:0<=x /\ x<n):ax Tryz.prog 49 [eI x,.rp [eI n]] (val (.bool false)):=by
 refine aa ah Tryz.func49 rfl (by decide) Tryz.ntmps49 Tryz.results49 rfl (aH _) ?_;have d0:decide (x<0)=false:=NE (by omega);have d1:decide (n<=x)=false:=NE (by omega)
 repeat' first|refine ge (kf d0 d1) ?_|decide|refine sp ?_ ?_<;>intro _
def nY (c:List Int) (i:Nat):Int:=(c.take i).foldl (fun a b=>max a (b+1)) 0
theorem Ad {c:List Int} {n:Int} (hc:∀ x ∈ c,0<=x /\ x<n) (h0:0<=n):∀ i,i<=c.length -> 0<=nY c i /\ nY c i<=n /\ (∀ x ∈ c.take i,x<nY c i)
 | 0,_=>by simp [nY,h0]
 | i+1,hi=>by
  obtain ⟨h1,h2,h3⟩:=Ad hc h0 i (by omega)
  have e:nY c (i+1)=max (nY c i) (c[i]+1):=by
   unfold nY;rw [Ns (by omega),OI];rfl
  have hx:=hc _ (Nt (show i<c.length by omega));rw [e];refine ⟨by omega,by omega,fun x hm=>?_⟩;rw [Ns (by omega),NK,NR] at hm;rcases hm with hm|rfl
  .have:=h3 x hm;omega
  .omega
theorem Dx {c:List Int} {n:Int} (hc:∀ x ∈ c,0<=x /\ x<n) (h0:0<=n) (hon:∀ k:Nat,(k:Int)<n -> (k:Int) ∈ c):nY c c.length=n:=by
 obtain ⟨h1,h2,h3⟩:=Ad hc h0 c.length (Nz _);rw [NG] at h3;by_cases e:n=0
 .omega
 .have h4:=hon (n - 1).toNat (by omega);have h5:=h3 _ h4;omega
def xi (l:List (List Int)) (k:Nat):List (List AV):=(uL l).take k ++ List.replicate (l.length - k) [.c (.slice none 0 0)]
theorem zC {l:List (List Int)} {k:Nat} (hk:k<=l.length):(xi l k).length=l.length:=by simp [xi];omega
theorem Hq {l:List (List Int)} {k:Nat} (hk:k<l.length):(xi l k).set k [sI l[k]]=xi l (k+1):=by
 apply Oh;intro j;rw [O4];simp only [xi,NB,NF,NI,List.length_replicate];by_cases e:k=j
 .subst e;rw [ND rfl,ND (by omega),N1 (by simp;omega)];simp [Oe,hk]
 .rw [Ny e];by_cases h:j<k
  .rw [N1 (by simp;omega),N1 (by simp;omega)];simp [Oe,h,show j<k+1 by omega]
  .rw [NY (by simp;omega),NY (by simp;omega)];simp only [NF,NI,Po]
   congr 1
   by_cases h2:j<l.length
   .rw [eq_true (show j - min k l.length<l.length - k by omega),eq_true (show j - min (k+1) l.length<l.length - (k+1) by omega)]
   .rw [eq_false (show ¬ j - min k l.length<l.length - k by omega),eq_false (show ¬ j - min (k+1) l.length<l.length - (k+1) by omega)]
theorem FB {l:List (List Int)} {k:Nat} (hk:k<l.length):(xi l k)[k]?.getD []=[.c (.slice none 0 0)]:=by
 rw [xi,NY (by simp;omega)];have:0<l.length - k:=by omega
 simp [Po,PT (Nat.le_of_lt hk),this]
theorem G9 (l:List (List Int)):xi l l.length=uL l:=by simp [xi,NT]
theorem Ct (next:List (List Int)) (c:List Int) (i:Nat) (hn:next.length<=4000) (hr:∀ r ∈ next,r.length<=4000) (hc:c.length<=1000000) (hi:i<next.length):ax Tryz.prog 48 [gV next,sI c,eI (i:Int)] ⟨sI (fT next c i),[],0⟩:=
 ax.still [0] (s7 next c i hn hr hc hi) (by simp [cG.frzs,cG.frz,ic,af.gc,AV.frz]) (by simp [AV.lt])
theorem x0 (next:List (List Int)) (col:List Int) (hn:next.length<=4000) (hr:∀ r ∈ next,r.length<=4000) (hc:col.length<=1000000) (hco:∀ x ∈ col,aB x):∃ t,br (bA next col (t+1))=br (bA next col t) /\ ax Tryz.prog 15 [gV next,sI col] ⟨sI (bA next col t),[],0⟩:=by
 obtain ⟨t,ht⟩:=JC next col;refine ⟨t,ht,(qM next col hn hr hc hco).mono ?_⟩;rintro R ⟨s,hs,rfl⟩;rw [Lk hs ht]
theorem CS (next:List (List Int)) (c:List Int) (hn:next.length<=4000) (hr:∀ r ∈ next,r.length<=4000) (hl:c.length=next.length) (hon:∀ k:Nat,(k:Int)<br c -> (k:Int) ∈ c) (hc:∀ x ∈ c,0<=x /\ x<br c) (h0:0<=br c) (hm:br c<=next.length):ax Tryz.prog 16 [gV next,sI c] ⟨gV (ig next c),[],0⟩:=by
 refine jT 50 ?_;refine aM ah Tryz.func16 rfl (by decide) Tryz.ntmps16 Tryz.results16 rfl ?_;have hsl:(ig next c).length=l9 c:=by simp [ig]
 have hK:((l9 c:Nat):Int)=br c:=by unfold l9;omega
 have w1:IntKind.i64.wrap ((next.length:Int) - 1)=(next.length:Int) - 1:=ar (by omega) (by omega)
 repeat' first|refine go ?_|decide|refine sp ?_ ?_<;>intro _
 refine ae (fun st=>∃ i:Nat,i<=c.length /\ st=⟨55,[(0,gV next),(1,sI c),(5,.op 0 0 0),(11,sI c),(12,eI (c.length:Int)),(13,eI (i:Int))],[(0,some (.box 3 [eI (nY c i)]))],1⟩) (fun st=>c.length - aq st 13) ⟨_,(wE (kf @nY.eq_1 (kf @NJ @OW))),0,Nv _,rfl⟩ ?_;rintro _ ⟨i,hi,rfl⟩;by_cases hlt:i<c.length
 .obtain ⟨x,hx⟩:∃ x,x=c[i]:=⟨_,rfl⟩;have hrx:(ip c)[i]?.getD []=[eI x]:=by rw [hx];simp [hlt]
  have hxb:=hc x (hx ▸ Nt hlt)
  have e1:nY c (i+1)=max (nY c i) (x+1):=by
   unfold nY;rw [Ns hlt,<- hx,OI];rfl
  have w2:min x ((next.length:Int) - 1)=x:=by omega
  have w3:IntKind.i64.wrap (x+1)=x+1:=ar (by omega) (by omega)
  repeat' first|refine ge (kf @hrx (kf @hlt (kf w1 (kf w2 w3)))) ?_|decide|refine sp ?_ ?_<;>intro _
  exact rI (wE e1) ⟨i+1,by omega,rfl⟩
 .obtain rfl:i=c.length:=by omega
  rw [Dx hc h0 hon,<- hK];obtain ⟨K,hKe⟩:∃ K,K=l9 c:=⟨_,rfl⟩;rw [<- hKe] at hsl hK ⊢;have i0:(0:Int)<=(K:Int):=by omega
  have i1:(K:Int)<=5864062014805:=by omega
  have hby:(24:Int) * (K:Int)<=281474976710656:=by omega
  have hz:List.replicate K [AV.c (.slice none 0 0)]=xi (ig next c) 0:=by simp [xi,hsl]
  repeat' first|refine ge (kf @hlt (kf i0 (kf i1 (kf @hby hz)))) ?_|decide|refine sp ?_ ?_<;>intro _
  refine ⟨⟨by omega,by omega⟩,?_⟩
  refine ae (fun st=>∃ k:Nat,k<=K /\ st=⟨55,[(0,gV next),(1,sI c),(5,.rp [eI (K:Int)]),(8,.osl 1),(29,eI (K:Int)),(30,eI (k:Int))],[(1,some (.row 50 1 (xi (ig next c) k)))],2⟩) (fun st=>K - aq st 30)
   ⟨_,(((wE (kf (zC (l:=ig next c) (Nv _)) @hsl)):eX _ ⟨55,[(0,gV next),(1,sI c),(5,.op 0 0 0),(8,.osl 1),(29,eI (K:Int)),(30,eI ((0:Nat):Int))],[(0,some (.box 3 [eI (K:Int)])),(1,some (.row 50 1 (xi (ig next c) 0)))],2⟩).trans (Ix 0 (ty:=3) (cells:=[eI (K:Int)]) (by simp [af.gc]) (by simp [bV,dk]) (by simp [kK,uu,bV,dk,xi]))).trans (wE (kf @kc.eq_1 (kf @kc.eq_2 (kf @AV.rpz.eq_1 (kf @AV.rpz.eq_2 (kf @AV.rpz.eq_3 (kf @AV.rpz.eq_4 (kf @AV.rpz.eq_5 (kf @AV.rpz.eq_6 (kf @AV.rpz.eq_7 (kf @AV.rpz.eq_8 (kf @AV.rpz.eq_9 (kf @AV.rpz.eq_10 (kf @AV.rpzL.eq_1 @AV.rpzL.eq_2)))))))))))))),0,Nv _,rfl⟩ ?_
  rintro _ ⟨k,hk,rfl⟩;have hol:(xi (ig next c) k).length=K:=by rw [zC (by omega),hsl]
  by_cases hlt2:k<K
  .have hm:=hon k (by omega);have hI:=C2 c (k:Int) (by omega) hm;have hfl:=N5 hm;obtain ⟨f,hf⟩:∃ f,f=c.idxOf (k:Int):=⟨_,rfl⟩;rw [<- hf] at hI hfl;have hB:=Ct next c f hn hr (by omega) (by omega)
   have hbm:∀ x ∈ fT next c f,0<=x /\ x<(K:Int):=fun x hx=>by
    obtain ⟨y,_,hy,rfl⟩:=fx.1 (tk.1 hx)
    obtain ⟨h2,h3⟩:y.toNat<next.length /\ (y.toNat:Int)=y:=by
     simp [sn] at hy;omega
    rw [<- h3,cu (by omega),hK];exact hc _ (Nt _)
   have hbl:=mp (c:=c) (i:=f) hr;have hset:=Hq (l:=ig next c) (k:=k) (by omega)
   have hge:(ig next c)[k]'(by omega)=fT next c f:=by
    simp only [ig,List.getElem_map,List.getElem_range];rw [xR,<- hf]
   rw [hge] at hset;have hhr:=FB (l:=ig next c) (k:=k) (by omega);obtain ⟨b,hb⟩:∃ b,b=fT next c f:=⟨_,rfl⟩;rw [<- hb] at hB hbm hset hbl;have hD:=yn 49 [.rp [eI (K:Int)]] b (by omega) (by simp [bV,dk]) fun x hx=>Kt x K (hbm x hx);have d1:decide ((f:Int)<0)=false:=NE (by omega);have d2:decide ((next.length:Int)<=(f:Int))=false:=NE (by omega);have d3:decide (next.length<=f)=false:=NE (by omega)
   repeat' first|refine gf (kf @hlt2 (kf @hol (kf @hhr (kf d1 (kf d2 (kf d3 @hset)))))) ?_|decide|refine sp ?_ ?_<;>intro _|refine cA hI ?_|refine cA hB ?_|refine cA hD ?_|fail
   all_goals exact rI (wE @hset) ⟨k+1,by omega,rfl⟩
  .obtain rfl:k=K:=by omega
   have hall:xi (ig next c) k=uL (ig next c):=(by rw [<- hsl,G9]);rw [hall]
   repeat' first|refine gf (kf @hlt2 @hol) ?_|decide|refine sp ?_ ?_<;>intro _
   all_goals exact iZ rfl
end
section
theorem Hf (a b:List Int) (ha:a.length<=1000000) (hb:b.length<=1000000):ax Tryz.prog 29 [sI a,sI b] (val (.bool (decide (a=b)))):=by
 refine aa ah Tryz.func29 rfl (by decide) Tryz.ntmps29 Tryz.results29 rfl (aH _) ?_;by_cases hl:a.length=b.length
 .have d0:((a.length:Int) != (b.length:Int))=false:=by simp [hl]
  repeat' first|refine ge d0 ?_|decide|refine sp ?_ ?_<;>intro _
  refine ae (fun st=>∃ k:Nat,k<=a.length /\ a.take k=b.take k /\ st=⟨26,[(0,sI a),(1,sI b),(5,eI (k:Int))],[],0⟩) (fun st=>a.length - aq st 5) ⟨_,wC,0,Nv _,by simp,rfl⟩ ?_;rintro _ ⟨k,hk,hpre,rfl⟩;by_cases hlt:k<a.length
  .have hlt2:k<b.length:=(by omega);have ra:=wg (l:=a) (i:=(k:Int)) (by omega) (by omega);have rb:=wg (l:=b) (i:=(k:Int)) (by omega) (by omega);rw [Ou] at ra rb;by_cases he:a.getD k 0=b.getD k 0
   .have d1:(a.getD k 0 != b.getD k 0)=false:=bne_eq_false_iff_eq.2 he
    repeat' first|refine ge @hlt ?_|decide|refine sp ?_ ?_<;>intro _
    refine aA (by kernel_rfl) ?_
    repeat' first|refine ge (kf @hlt (kf @hlt2 (kf ra (kf rb d1)))) ?_|decide|refine sp ?_ ?_<;>intro _
    refine rI wC ⟨k+1,by omega,?_,rfl⟩;rw [Ns hlt,Ns hlt2,hpre];simp [List.getD,hlt,hlt2] at he;rw [he]
   .have d1:(a.getD k 0 != b.getD k 0)=true:=bne_iff_ne.2 he;have hne:decide (a=b)=false:=NE fun e=>he (by rw [e]);rw [hne]
    repeat' first|refine ge @hlt ?_|decide|refine sp ?_ ?_<;>intro _
    refine aA (by kernel_rfl) ?_
    repeat' first|refine ge (kf @hlt (kf @hlt2 (kf ra (kf rb d1)))) ?_|decide|refine sp ?_ ?_<;>intro _
  obtain rfl:k=a.length:=by omega
  have he:decide (a=b)=true:=by
   rw [NG,hl,NG] at hpre;exact NL hpre
  rw [he]
  repeat' first|refine ge @hlt ?_|decide|refine sp ?_ ?_<;>intro _
 .have d0:((a.length:Int) != (b.length:Int))=true:=by simp;omega
  have hne:decide (a=b)=false:=NE fun e=>hl (by rw [e]);rw [hne]
  repeat' first|refine ge d0 ?_|decide|refine sp ?_ ?_<;>intro _
abbrev MA:List (List Int):=[[1],[0],[2]]
theorem Gh:∀ t,bA MA [] t=[0,0,0]
 | 0=>by decide +kernel
 | t+1=>by
  rw [bA,Gh t]
  have:fI MA [0,0,0]=[[0,0],[0,0],[0,0]]:=by
   simp only [fI,ph,fT,iP];decide +kernel
  rw [this];decide +kernel
theorem cy:ax Tryz.prog 9 [] (val (.bool true)):=by
 refine aa ah Tryz.func9 rfl (by decide) Tryz.ntmps9 Tryz.results9 rfl (aH _) ?_;have h0:ax Tryz.prog 15 [gV MA,sI []] ⟨sI [0,0,0],[],0⟩:=(qM MA [] (by decide) (by decide) (by decide) (by simp)).mono fun R ⟨t,_,hR⟩=>by rw [hR,Gh]
 have h:=ax.fits h0 (args:=[gV MA,.c (.slice none 0 0)]) ⟨.one (.refl _),.one (.nil 1),trivial⟩
 repeat' first|refine go ?_|decide|refine sp ?_ ?_<;>intro _
 refine ⟨rfl,rfl,rfl,rfl,?_⟩;refine nv [3] (R:=⟨sI [0,0,0],[],0⟩) ?_ ?_ ?_
 .repeat' first|decide|refine go ?_
  exact h
 .repeat' first|decide|refine go ?_
  left;simp [pi,yS,bV,dk]
 repeat' first|refine ge @bK ?_|decide|refine sp ?_ ?_<;>intro _
 refine ⟨rfl,?_⟩;have hs:=Hf [0,0,0] [0,0,0] (by decide) (by decide);have ht:decide (([0,0,0]:List Int)=[0,0,0])=true:=by decide
 rw [ht] at hs;refine aw hs ?_
 repeat' first|refine go ?_|decide|refine sp ?_ ?_<;>intro _
end
section
section
variable {next:List (List Int)} {at_:al -> List Bool}
theorem Hk {l:List al} (h:bq (l.map al.op) 0=some 1) (hat:∀ x ∈ l,aC x.op=0 -> (at_ x).length=next.length):ct next at_ l=[qo next at_ l] /\ (qo next at_ l).length=next.length:=by
 obtain ⟨h1,h2⟩:=kU (next:=next) h hat l.length (Nz _);rw [NG] at h1 h2;rw [h] at h2;have hl:(ct next at_ l).length=1:=(OX h2).symm;obtain ⟨a,ha⟩:=List.length_eq_one_iff.1 hl;have e:qo next at_ l=a:=by rw [qo,ha];rfl
 rw [e];exact ⟨ha,h1 a (by rw [ha];simp)⟩
end
end
end
section
section
def mK (new old:List Int) (j:Nat):List Int:=new.take j ++ old.drop j
theorem Fe {new old:List Int} (h:new.length=old.length) {j:Nat} (hj:j<=old.length):(mK new old j).length=old.length:=by simp [mK];omega
theorem GQ {new old:List Int} (h:new.length=old.length) {j:Nat} (hj:j<old.length):(ip (mK new old j))[j]?.getD []=[eI (old.getD j 0)]:=by
 rw [Nu,mK,NY (by simp;omega)];simp [PT (show j<=new.length by omega),List.getD,hj]
theorem ER {new old:List Int} (h:new.length=old.length) {j:Nat} (hj:j<old.length):(ip (mK new old j)).set j [eI (new.getD j 0)]=ip (mK new old (j+1)):=by
 have hn:j<new.length:=by omega
 apply Oh;intro i;rw [O4];simp only [mK,NI,NB,NF,Ov,Nu];by_cases e:j=i
 .subst e;rw [ND rfl,ND (by omega),N1 (by simp;omega)];simp [Oe,List.getD,hn]
 .rw [Ny e];by_cases h1:i<j
  .rw [N1 (by simp;omega),N1 (by simp;omega)];simp [Oe,h1,show i<j+1 by omega]
  .rw [NY (by simp;omega),NY (by simp;omega)];simp only [NF,Og];rw [show j+(i - min j new.length)=j+1+(i - min (j+1) new.length) by omega]
theorem Cu (new old:List Int):mK new old 0=old:=by simp [mK]
theorem CU {new old:List Int} (h:new.length=old.length):mK new old old.length=new:=by simp [mK,NT (Nat.le_of_eq h)]
theorem xF {α:Type} (f:α -> Nat) (b:Nat):∀ l:List α,(∀ x ∈ l,f x<=b) -> (l.map f).sum<=l.length * b
 | [],_=>by simp
 | x :: l,h=>by
  have h1:=xF f b l fun y hy=>h y (N7 _ hy);have h2:=h x Ob;rw [Oz,List.sum_cons,NZ,PS];omega
theorem AA (l:List al) (hl:70<l.length) (hm:l.length<=9223372036854775807):ax Tryz.prog 5 [a7 l] (ic 76 9 (((l.take 70).map al.op).map lF)):=by
 refine aa ah Tryz.func5 rfl (by decide) Tryz.ntmps5 Tryz.results5 rfl (cB _ _ _) ?_
 repeat' first|refine go ?_|decide|refine sp ?_ ?_<;>intro _
 refine ae (fun st=>∃ k:Nat,k<=70 /\ st=⟨25,[(0,a7 l),(3,.osl 0),(4,eI (k:Int))],[(0,some (.row 76 9 (((l.take k).map al.op).map lF)))],1⟩) (fun st=>70 - aq st 4) ⟨_,((aR 3 76 9 (by simp only [ia,aj.get,aX,aj.put,↓reduceIte,reduceCtorEq,Nat.reduceLT,Nat.reduceEqDiff,Nat.reduceAdd,Nat.reduceLeDiff,eq_self,implies_true,NJ,N3])).trans (wS [0] @NJ)),0,Nv _,rfl⟩ ?_;rintro _ ⟨k,hk,rfl⟩;have hlt:k<l.length:=by omega
 by_cases h70:k<70
 .have et:((l.take (k+1)).map al.op).map lF=((l.take k).map al.op).map lF ++ [lF l[k].op]:=by
   rw [Ns hlt];simp only [OB,Oz,N3]
  obtain ⟨x,hx⟩:∃ x,x=l[k]:=⟨_,rfl⟩;have hrow:(l.map eD)[k]?.getD []=eD x:=by rw [hx];simp [hlt]
  have d7:decide ((k:Int)<70)=true:=NL (by omega);have htl:(l.take k).length<=70:=by rw [NF];omega
  rw [<- hx] at et
  repeat' first|refine gf (kf @hrow (kf @hlt d7)) ?_|decide|refine sp ?_ ?_<;>intro _|(with_reducible apply And.intro)
  all_goals first
   | rfl
   | omega
   | exact rI (wS [2] et) ⟨k+1,by omega,rfl⟩
 .obtain rfl:k=70:=by omega
  have d7:decide (((70:Nat):Int)<70)=false:=rfl
  repeat' first|refine gf (kf @hlt d7) ?_|decide|refine sp ?_ ?_<;>intro _
  exact aO (by simp [af.gc])
section
variable (m:bb) (c:List Int) (N:List Nd)
noncomputable def eL (l:List al):List Int:=(List.range N.length).map (fy (cZ m c N) l).2
noncomputable def ft (l:List al):Nat:=(fy (cZ m c N) l).1
theorem qj (l:List al):(eL m c N l).length=N.length:=by simp [eL]
theorem sF:ip (eL m c N [])=List.replicate N.length [eI 0]:=by
 rw [List.eq_replicate_iff];refine ⟨by simp [eL],fun b hb=>?_⟩;obtain ⟨z,hz,rfl⟩:=NC.1 hb;obtain ⟨k,_,rfl⟩:=NC.1 hz;rfl
theorem td:(ft m c N []:Int)=0:=rfl
theorem mt (l:List al) {k:Nat} (hk:k<N.length):(eL m c N l).getD k 0=(fy (cZ m c N) l).2 k:=by simp [eL,List.getD,hk]
end
theorem CB (m:bb) (h:yd m) (p:List al) (hp:∀ x ∈ p,x.ok):∀ n ∈ iz m p,aB n:=fun n hn=>by
 have h1:=((dL _).2 n).1 hn;have key:∀ l:List al,(∀ x ∈ l,x.ok) -> ∀ n ∈ dH l,aB n:=fun l hl n hn=>CD l hl n (((dL _).2 n).1 hn);rcases NK.1 h1 with h1|h1
 .rcases NK.1 h1 with h1 | h1
  .exact key p hp n h1
  .obtain ⟨g,hg,h2⟩:=Ow.1 h1;exact key _ (h.1 g hg) n h2
 .obtain ⟨g,hg,h2⟩:=Ow.1 h1;exact key _ (h.2 g hg) n h2
def Nj (m:bb) (c:List Int) (N:List Nd) (E:List (List uq)) (l:List al) (st:aj):Prop:=∃ i:Nat,(i<l.length /\ st=⟨229,[(1,a7 l),(2,.op 0 0 0),(5,.sl 9 ((l.map al.op).map lF)),(6,sI c),(7,.op 1 0 0),(9,gV (bm E)),(10,.osl 3),(11,.osl 2),(12,eI (ft m c N (l.take i):Int)),(13,eI (i:Int))],[(0,some (.box 32 (aQ m))),(1,some (.box 44 [.sl 6 (N.map fG),.sl 1 (ja E)])),(2,some (.row 3 1 (ip (eL m c N (l.take i))))),(3,some (.row 51 1 (cN ((l.take i).map (cZ m c N)))))],4⟩) \/
 (i=l.length /\ st=⟨229,[(1,a7 l),(2,.op 0 0 0),(5,.sl 9 ((l.map al.op).map lF)),(6,sI c),(7,.op 1 0 0),(9,gV (bm E)),(10,.osl 3),(11,sI (eL m c N l)),(12,eI (ft m c N l:Int)),(13,eI (i:Int))],[(0,some (.box 32 (aQ m))),(1,some (.box 44 [.sl 6 (N.map fG),.sl 1 (ja E)])),(3,some (.row 51 1 (cN (l.map (cZ m c N)))))],4⟩)
theorem mX {m:bb} {c:List Int} {N:List Nd} {E:List (List uq)} {l:List al} {i n:Nat} {st:aj} (hi:i<l.length)
  (hw:eX st ⟨229,[(1,a7 l),(2,.op 0 0 0),(5,.sl 9 ((l.map al.op).map lF)),(6,sI c),(7,.op 1 0 0),(9,gV (bm E)),(10,.osl 3),(11,.osl 2),(12,eI (ft m c N (l.take (i+1)):Int)),(13,eI ((i+1:Nat):Int))],[(0,some (.box 32 (aQ m))),(1,some (.box 44 [.sl 6 (N.map fG),.sl 1 (ja E)])),(2,some (.row 3 1 (ip (eL m c N (l.take (i+1)))))),(3,some (.row 51 1 (cN ((l.take (i+1)).map (cZ m c N)))))],4⟩) (hn:n=l.length - i):qn (Nj m c N E l) (fun st=>l.length - aq st 13) n st:=by
 by_cases h:i+1<l.length
 .refine fa hw ⟨i+1,.inl ⟨h,rfl⟩⟩ ?_;simp only [aq,aj.get,aX,↓reduceIte,Nat.reduceLT,Nat.reduceEqDiff];omega
 .have hl:i+1=l.length:=by omega
  have ht:l.take (i+1)=l:=by rw [hl,NG]
  rw [ht] at hw;refine fa (hw.trans ((ko _ 2).trans ?_)) ⟨i+1,.inr ⟨hl,rfl⟩⟩ ?_
  .simp only [fU,eY,bE,af.gc,aE.frz,AV.frz,AV.frzL,↓reduceIte,Nat.reduceEqDiff,N9,PD,reduceCtorEq,Px,Option.map_none];exact wC
  .simp only [aq,aj.get,aX,↓reduceIte,Nat.reduceLT,Nat.reduceEqDiff];omega
theorem xN (m:bb) (l:List al) (hx:∀ x ∈ l,x.ok) (hll:l.length<=9223372036854775807) (hp:∀ p ∈ m.stages,aB p.2) (hr:∀ p ∈ m.roles,aB p.2) (hi:∀ x ∈ m.inits,aB x) (hcd:yd m):ax Tryz.prog 3 [.agg (aQ m),a7 l] (val (.bool true)):=by
 refine aa ah Tryz.func3 rfl (by decide) Tryz.ntmps3 Tryz.results3 rfl (aH _) ?_
 repeat' first|refine go ?_|decide|refine sp ?_ ?_<;>intro _
 by_cases hl:l.length<=40
 .refine bI (zH l (by omega)) (ro) ?_
  repeat' first|refine ge @bK ?_|decide|refine sp ?_ ?_<;>intro _
  refine gA (ou m) fun b hb=>?_
  cases b with
  | true=>(repeat' (first | refine gq ?_ | decide | refine sp ?_ ?_<;>intro _ | ((with_reducible first | apply aw (g:=9) | apply aL (g:=9));exact cy)))
  | false=>
   have hf:=hb rfl
   repeat' first|refine go ?_|decide|refine sp ?_ ?_<;>intro _
   refine gA (lV m hf hp) fun b hck=>?_
   cases b with
   | false=>(repeat' (first | refine gq ?_ | decide | refine sp ?_ ?_<;>intro _ | ((with_reducible first | apply aw (g:=9) | apply aL (g:=9));exact cy)))
   | true=>
    have hck:=hck rfl;have d0:decide ((40:Int)<(l.length:Int))=false:=NE (by omega);have hCk:=zo (l.map al.op) (by rw [NI];omega);by_cases hk:sm (l.map al.op)=0
    .rw [hk] at hCk;have z3:((0:Int) != 0)=false:=rfl;obtain ⟨hgl,hml,hsl,hel,hal,hul,hrl,hsol,hol,hil⟩:=id hf.sizes
     have hC:=se m l (by omega) (by omega) (by
      have h1:=xF (fun g:Gd=>g.cond.length) 80 m.guards fun g h=>hf.guards g h;have h2:=xF (fun g:Ml=>g.cond.length) 80 m.miles fun g h=>hf.miles g h;have h3:=NS 80 hgl;have h4:=NS 80 hml;omega)
     have hcok:=CB m hcd l hx;obtain ⟨c,hce⟩:∃ c,c=iz m l:=⟨_,rfl⟩;rw [<- hce] at hC hcok;by_cases h6:c.length<=6
     .have d6:decide ((6:Int)<(c.length:Int))=false:=NE (by omega);have hE:gE m c:=⟨hf,hck,by omega,hcok,hp,hr⟩;have hX:=Cw m c 60 hE hi (by omega);have e60:((60:Nat):Int)=60:=rfl;rw [e60] at hX
      repeat' first|refine gf (kf d0 (kf z3 d6)) ?_|decide|refine sp ?_ ?_<;>intro _|refine cA hCk ?_|refine cA hC ?_|fail
      refine Ar hX ?_;rintro R (rfl | ⟨N,E,hXk,hNl,rfl⟩)
      .refine ⟨ro,?_⟩
       repeat' first|refine gf @bK ?_|decide|refine sp ?_ ?_<;>intro _|((with_reducible first|apply aw (g:=9)|apply aL (g:=9));exact cy)
      .refine ⟨ro,?_⟩;obtain ⟨hnx,hin,hnl⟩:=GB hXk hE (by omega);have hEl:E.length=N.length:=hXk.len
       have hrowE:∀ r ∈ E,r.length<=4000:=fun r hr=>by
        have:=hnx.row (r.map uq.dst) (Pd hr);rw [NI] at this;omega
       have hNx:=Gn N E (by omega) (fun r hr=>by have:=hrowE r hr;omega);have hpos:=Jf hXk;obtain ⟨hrow,hl0,hl64⟩:=Ba hk;rw [NI] at hl0;have hatl:∀ x,(cZ m c N x).length=N.length:=fun x=>by simp [cZ]
       have i0:(0:Int)<=(N.length:Int):=(by omega);have i1:(N.length:Int)<=16777216:=(by omega);have hby:(8:Int) * (N.length:Int)<=281474976710656:=(by omega);obtain ⟨F,hF⟩:∃ F,F=fy (cZ m c N):=⟨_,rfl⟩;have hFs:=fun l x=>kJ (cZ m c N) l x;have hFb:=fun l k=>Hp (cZ m c N) l k;have hFc:=fun l=>Gm (cZ m c N) l
       repeat' first|refine gf (kf @bK (kf @hEl (kf i0 (kf i1 @hby)))) ?_|decide|refine sp ?_ ?_<;>intro _|refine cA hNx ?_|fail
       refine ⟨by omega,?_⟩
       refine ae (Nj m c N E l) (fun st=>l.length - aq st 13)
        ⟨_,((aR 10 51 1 (by simp only [ia,aj.get,aX,aj.put,↓reduceIte,reduceCtorEq,Nat.reduceLT,Nat.reduceEqDiff,Nat.reduceAdd,Nat.reduceLeDiff,eq_self,implies_true,NJ,N3,cN,sF,td])).trans (wS [0,1,2,3] (kf @NJ (kf @cN.eq_1 (kf @sF @td))))),0,.inl ⟨hl0,rfl⟩⟩ ?_
       rintro _ ⟨i,⟨hlt,rfl⟩ | ⟨rfl,rfl⟩⟩
       .obtain ⟨x,hx2⟩:∃ x,x=l[i]:=⟨_,rfl⟩;have hrx:(l.map eD)[i]?.getD []=eD x:=by rw [hx2];simp [hlt]
        have hAr:=rr x.op;have hxm:x ∈ l:=by rw [hx2];exact Nt hlt
        have etk:l.take (i+1)=l.take i ++ [x]:=(by rw [Ns hlt,hx2]);have hs1:=hFs (l.take i) x;rw [<- etk] at hs1;have hcn:=hFc (l.take i);have htl:(l.take i).length<=40:=by rw [NF];omega
        have et:cN ((l.take (i+1)).map (cZ m c N))=cN ((l.take i).map (cZ m c N)) ++ [[j2 (cZ m c N x)]]:=by
         rw [etk];simp [cN]
        have hEl1:(cN ((l.take i).map (cZ m c N))).length<=64:=by simp [cN];omega
        obtain ⟨E1,hE1⟩:∃ E1,E1=cN ((l.take i).map (cZ m c N)):=⟨_,rfl⟩;rw [<- hE1] at et hEl1 ⊢
        have hob:∀ k,k<N.length -> 0<=(eL m c N (l.take i)).getD k 0 /\ (eL m c N (l.take i)).getD k 0<1048576:=fun k hk=>by
         rw [mt m c N _ hk];exact hFb _ k
        have hcase:(aC x.op=0 /\ ft m c N (l.take (i+1))=ft m c N (l.take i)+1 /\ ft m c N (l.take (i+1))<=20 /\ (∀ k,k<N.length -> (eL m c N (l.take (i+1))).getD k 0=2 * (eL m c N (l.take i)).getD k 0+o9 ((cZ m c N x).getD k false))) \/ (eL m c N (l.take (i+1))=eL m c N (l.take i) /\ ((aC x.op=0 /\ ft m c N (l.take (i+1))=ft m c N (l.take i)+1 /\ ¬ ft m c N (l.take (i+1))<=20) \/ (¬ aC x.op=0 /\ ft m c N (l.take (i+1))=ft m c N (l.take i)))):=by
         by_cases h0:aC x.op=0
         .by_cases h20:(fy (cZ m c N) (l.take i)).1+1<=20
          .refine .inl ⟨h0,by rw [ft,ft,hs1,d8,ND h0],by rw [ft,hs1,d8,ND h0];exact h20,fun k hk=>?_⟩;rw [mt m c N _ hk,mt m c N _ hk,hs1,d8,ND h0,ND h20]
          .refine .inr ⟨by rw [eL,eL,hs1,d8,ND h0,Ny h20],.inl ⟨h0,by rw [ft,ft,hs1,d8,ND h0],by rw [ft,hs1,d8,ND h0];exact h20⟩⟩
         .exact .inr ⟨by rw [eL,eL,hs1,d8,Ny h0],.inr ⟨h0,by rw [ft,ft,hs1,d8,Ny h0]⟩⟩
        have hcn':ft m c N (l.take i)<=40:=by unfold ft;omega
        have hol:(eL m c N (l.take i)).length=N.length:=qj m c N _;have hwl:(eL m c N (l.take (i+1))).length=N.length:=qj m c N _;have hlast:i+1=l.length -> l.take (i+1)=l:=fun h=>by rw [h,NG]
        obtain ⟨o,ho⟩:∃ o,o=eL m c N (l.take i):=⟨_,rfl⟩;obtain ⟨w,hw⟩:∃ w,w=eL m c N (l.take (i+1)):=⟨_,rfl⟩;obtain ⟨q,hq⟩:∃ q,q=ft m c N (l.take (i+1)):=⟨_,rfl⟩;obtain ⟨cn,hcn2⟩:∃ cn,cn=ft m c N (l.take i):=⟨_,rfl⟩;simp only [<- ho,<- hw,<- hq,<- hcn2] at hcase hob hol hwl hcn' ⊢;have bl:(List.replicate N.length false).length=N.length:=(by simp);rcases hcase with ⟨h0,hq1,hq2,hwk⟩|⟨hwo,hq1⟩
        .have a0:(aC x.op == 0)=true:=(by simp [h0]);have w1:IntKind.i64.wrap ((cn:Int)+1)=(q:Int):=by rw [ar (by omega) (by omega)];omega
         repeat' first|refine gf (kf @hrx (kf @hlt (kf a0 (kf w1 (kf i0 (kf i1 @hEl)))))) ?_|decide|refine sp ?_ ?_<;>intro _|refine cA hAr ?_|fail
         refine ⟨by omega,?_⟩
         repeat' first|refine gf (kf @hrx (kf @hlt (kf a0 (kf w1 (kf i0 (kf i1 @hEl)))))) ?_|decide|refine sp ?_ ?_<;>intro _|refine cA hAr ?_|fail
         refine ae (fun st=>∃ k:Nat,k<=N.length /\ st=⟨229,[(1,a7 l),(2,.op 0 0 0),(5,.sl 9 ((l.map al.op).map lF)),(6,sI c),(7,.op 1 0 0),(9,gV (bm E)),(10,.osl 3),(11,.osl 2),(12,eI (q:Int)),(13,eI (i:Int)),(14,.osl 4),(15,eI (k:Int))],[(0,some (.box 32 (aQ m))),(1,some (.box 44 [.sl 6 (N.map fG),.sl 1 (ja E)])),(2,some (.row 3 1 (ip (mK w o k)))),(3,some (.row 51 1 E1)),(4,some (.row 4 1 (dZ (bv (cZ m c N x) (List.replicate N.length false) k))))],5⟩) (fun st=>N.length - aq st 15) ⟨_,(wE (kf @Cu (kf @fk @PA))),0,Nv _,rfl⟩ ?_;rintro _ ⟨k,hk,rfl⟩;by_cases hlk:k<N.length
         .obtain ⟨y,hy⟩:∃ y,y=N[k]:=⟨_,rfl⟩;have hry:(N.map fG)[k]?.getD []=fG y:=by rw [hy];simp [hlk]
          have hyB:=hXk.bnd y (hy ▸ Nt hlk);have hAt:=zO m c y x (by omega) (by omega) (by omega) (by omega) (by omega) hr (by have:=hyB.z.cl;omega) (by omega) (by have:=hyB.did;omega) (by have:=hyB.cnt;omega) hyB.z.at_ hyB.opn hyB.don hyB.dok;have hv:(cZ m c N x).getD k false=xk m c y x:=by rw [hy];simp [cZ,List.getD,hlk]
          have ul:=dh (new:=cZ m c N x) (old:=List.replicate N.length false) (by rw [hatl,bl]) (j:=k) (by rw [bl];omega);have ul2:=dh (new:=cZ m c N x) (old:=List.replicate N.length false) (by rw [hatl,bl]) (j:=k+1) (by rw [bl];omega);have r1:=io (new:=cZ m c N x) (old:=List.replicate N.length false) (by rw [hatl,bl]) (j:=k) (by rw [bl];omega);have hset:=gi (new:=cZ m c N x) (old:=List.replicate N.length false) (by rw [hatl,bl]) (j:=k) (by rw [bl];omega)
          have r2:(dZ (bv (cZ m c N x) (List.replicate N.length false) (k+1)))[k]?.getD []=[eB (xk m c y x)]:=by
           rw [<- hset,hv];simp [ul,bl,hlk]
          rw [bl] at ul ul2;rw [hv] at hset;have w2:=hwk k hlk;rw [hv] at w2;have ob:=hob k hlk;have cl:=Fe (new:=w) (old:=o) (by rw [hol,hwl]) (j:=k) (by omega);have r3:=GQ (new:=w) (old:=o) (by rw [hol,hwl]) (j:=k) (by omega);have cset:=ER (new:=w) (old:=o) (by rw [hol,hwl]) (j:=k) (by omega);rw [hol] at cl;obtain ⟨a,ha⟩:∃ a,a=o.getD k 0:=⟨_,rfl⟩;rw [<- ha] at w2 ob r3;have w3:IntKind.i64.wrap (a * 2)=a * 2:=ar (by omega) (by omega);have w4:IntKind.i64.wrap (a * 2+1)=a * 2+1:=ar (by omega) (by omega);have d20:decide ((q:Int)<=20)=true:=NL (by omega);obtain ⟨U,hU⟩:∃ U,U=ip (mK w o k):=⟨_,rfl⟩;have hUl:U.length=N.length:=(by rw [hU,NI,cl]);rw [<- hU] at r3 cset ⊢;obtain ⟨v,hv2⟩:∃ v,v=xk m c y x:=⟨_,rfl⟩;rw [<- hv2] at hAt w2 hset r2;obtain ⟨Z,hZ⟩:∃ Z,Z=dZ (bv (cZ m c N x) (List.replicate N.length false) k):=⟨_,rfl⟩;obtain ⟨Z2,hZ2⟩:∃ Z,Z=dZ (bv (cZ m c N x) (List.replicate N.length false) (k+1)):=⟨_,rfl⟩;have Zl:Z.length=N.length:=(by rw [hZ,NI,ul]);have Zl2:Z2.length=N.length:=(by rw [hZ2,NI,ul2]);rw [<- hZ2] at r2 hset;rw [<- hZ] at r1 hset ⊢
          repeat' first|refine ge (kf @hlk @hEl) ?_|decide|refine sp ?_ ?_<;>intro _
          refine aD [4] [0,1,2,3,4,5,6,7,8,9,10,11,12] (.exec 13 (.take 14 (.exec 15 .done))) (by kernel_rfl) (by simp [af.gc]) ?_;have d21:decide (q<=20)=true:=NL hq2;have r5:(U.set k [eI (a * 2)])[k]?.getD []=[eI (a * 2)]:=(by simp [hUl,hlk])
          repeat' first|refine ge (kf @hlk (kf @hry (kf @hrx (kf @hlt Zl)))) ?_|decide|refine sp ?_ ?_<;>intro _
          refine aw hAt ?_
          repeat' first|refine ge (kf @hlk (kf @hry (kf @hrx (kf @hlt (kf Zl (kf r1 (kf @hset (kf d20 d21)))))))) ?_|decide|refine sp ?_ ?_<;>intro _
          refine aw hAr ?_
          repeat' first|refine ge (kf a0 (kf @hlk (kf @hUl (kf r3 w3)))) ?_|decide|refine sp ?_ ?_<;>intro _
          cases v with
          | true=>
           have w5:w.getD k 0=a * 2+1:=by rw [w2];simp [o9];omega
           rw [w5] at cset
           repeat' first|refine ge (kf @hlk (kf @hUl (kf Zl2 (kf r2 (kf r5 (kf w4 (kf @Pg (kf @List.set_set.{0} @cset)))))))) ?_|decide|refine sp ?_ ?_<;>intro _
           all_goals exact rI (wE hZ2) ⟨k+1,by omega,rfl⟩
          | false=>
           have w5:w.getD k 0=a * 2:=by rw [w2];simp [o9];omega
           rw [w5] at cset
           repeat' first|refine ge (kf @hlk (kf @hUl (kf Zl2 (kf r2 @cset)))) ?_|decide|refine sp ?_ ?_<;>intro _
           all_goals exact rI (wE hZ2) ⟨k+1,by omega,rfl⟩
         .have hkN:k=N.length:=(by omega);subst hkN;have eU:mK w o N.length=w:=by rw [<- hol];exact CU (by rw [hwl,hol])
          have eB2:bv (cZ m c N x) (List.replicate N.length false) N.length=cZ m c N x:=by
           have:=gx (new:=cZ m c N x) (old:=List.replicate N.length false) (by rw [hatl,bl])
           rwa [bl] at this
          rw [eU,eB2]
          repeat' first|refine gf (kf @hlk @hEl) ?_|decide|refine sp ?_ ?_<;>intro _|(with_reducible apply And.intro)
          all_goals first
           | rfl
           | omega
           | exact mX hlt (wS [0,1,2,6] (kf et (kf hq hw))) (by simp only [aq,aj.get,aX,↓reduceIte,Nat.reduceLT,Nat.reduceEqDiff];omega)
        .subst hwo;rcases hq1 with ⟨h0,hq1,hq2⟩|⟨h0,hq1⟩
         .have a0:(aC x.op == 0)=true:=(by simp [h0]);have w1:IntKind.i64.wrap ((cn:Int)+1)=(q:Int):=by rw [ar (by omega) (by omega)];omega
          have d20:decide ((q:Int)<=20)=false:=NE (by omega);have d21:decide (q<=20)=false:=NE hq2
          repeat' first|refine gf (kf @hrx (kf @hlt (kf a0 (kf w1 (kf i0 (kf i1 @hEl)))))) ?_|decide|refine sp ?_ ?_<;>intro _|refine cA hAr ?_|fail
          refine ⟨by omega,?_⟩
          repeat' first|refine gf (kf @hrx (kf @hlt (kf a0 (kf w1 (kf i0 (kf i1 @hEl)))))) ?_|decide|refine sp ?_ ?_<;>intro _|refine cA hAr ?_|fail
          refine ae (fun st=>∃ k:Nat,k<=N.length /\ st=⟨229,[(1,a7 l),(2,.op 0 0 0),(5,.sl 9 ((l.map al.op).map lF)),(6,sI c),(7,.op 1 0 0),(9,gV (bm E)),(10,.osl 3),(11,.osl 2),(12,eI (q:Int)),(13,eI (i:Int)),(14,.osl 4),(15,eI (k:Int))],[(0,some (.box 32 (aQ m))),(1,some (.box 44 [.sl 6 (N.map fG),.sl 1 (ja E)])),(2,some (.row 3 1 (ip w))),(3,some (.row 51 1 E1)),(4,some (.row 4 1 (dZ (bv (cZ m c N x) (List.replicate N.length false) k))))],5⟩) (fun st=>N.length - aq st 15) ⟨_,(wE (kf @fk @PA)),0,Nv _,rfl⟩ ?_;rintro _ ⟨k,hk,rfl⟩;by_cases hlk:k<N.length
          .obtain ⟨y,hy⟩:∃ y,y=N[k]:=⟨_,rfl⟩;have hry:(N.map fG)[k]?.getD []=fG y:=by rw [hy];simp [hlk]
           have hyB:=hXk.bnd y (hy ▸ Nt hlk);have hAt:=zO m c y x (by omega) (by omega) (by omega) (by omega) (by omega) hr (by have:=hyB.z.cl;omega) (by omega) (by have:=hyB.did;omega) (by have:=hyB.cnt;omega) hyB.z.at_ hyB.opn hyB.don hyB.dok;have hv:(cZ m c N x).getD k false=xk m c y x:=by rw [hy];simp [cZ,List.getD,hlk]
           have ul:=dh (new:=cZ m c N x) (old:=List.replicate N.length false) (by rw [hatl,bl]) (j:=k) (by rw [bl];omega);have ul2:=dh (new:=cZ m c N x) (old:=List.replicate N.length false) (by rw [hatl,bl]) (j:=k+1) (by rw [bl];omega);have r1:=io (new:=cZ m c N x) (old:=List.replicate N.length false) (by rw [hatl,bl]) (j:=k) (by rw [bl];omega);have hset:=gi (new:=cZ m c N x) (old:=List.replicate N.length false) (by rw [hatl,bl]) (j:=k) (by rw [bl];omega)
           have r2:(dZ (bv (cZ m c N x) (List.replicate N.length false) (k+1)))[k]?.getD []=[eB (xk m c y x)]:=by
            rw [<- hset,hv];simp [ul,bl,hlk]
           rw [bl] at ul ul2;rw [hv] at hset;obtain ⟨v,hv2⟩:∃ v,v=xk m c y x:=⟨_,rfl⟩;rw [<- hv2] at hAt hset r2;obtain ⟨Z,hZ⟩:∃ Z,Z=dZ (bv (cZ m c N x) (List.replicate N.length false) k):=⟨_,rfl⟩;obtain ⟨Z2,hZ2⟩:∃ Z,Z=dZ (bv (cZ m c N x) (List.replicate N.length false) (k+1)):=⟨_,rfl⟩;have Zl:Z.length=N.length:=(by rw [hZ,NI,ul]);have Zl2:Z2.length=N.length:=(by rw [hZ2,NI,ul2]);rw [<- hZ2] at r2 hset;rw [<- hZ] at r1 hset ⊢
           repeat' first|refine ge (kf @hlk @hEl) ?_|decide|refine sp ?_ ?_<;>intro _
           refine aD [4] [0,1,2,3,4,5,6,7,8,9,10,11,12] (.exec 13 (.take 14 (.exec 15 .done))) (by kernel_rfl) (by simp [af.gc]) ?_
           repeat' first|refine ge (kf @hlk (kf @hry (kf @hrx (kf @hlt Zl)))) ?_|decide|refine sp ?_ ?_<;>intro _
           refine aw hAt ?_
           repeat' first|refine ge (kf @hlk (kf @hry (kf @hrx (kf @hlt (kf Zl (kf r1 (kf @hset (kf d20 d21)))))))) ?_|decide|refine sp ?_ ?_<;>intro _
           exact rI (wE hZ2) ⟨k+1,by omega,rfl⟩
          .have hkN:k=N.length:=(by omega);subst hkN
           have eB2:bv (cZ m c N x) (List.replicate N.length false) N.length=cZ m c N x:=by
            have:=gx (new:=cZ m c N x) (old:=List.replicate N.length false) (by rw [hatl,bl])
            rwa [bl] at this
           rw [eB2]
           repeat' first|refine gf (kf @hlk @hEl) ?_|decide|refine sp ?_ ?_<;>intro _|(with_reducible apply And.intro)
           all_goals first
            | rfl
            | omega
            | exact mX hlt (wS [0,1,2,6] (kf et (kf hq hw))) (by simp only [aq,aj.get,aX,↓reduceIte,Nat.reduceLT,Nat.reduceEqDiff];omega)
         .subst hq1;have a0:(aC x.op == 0)=false:=(by simp [h0]);by_cases h20:q<=20
          .have d20:decide ((q:Int)<=20)=true:=NL (by omega);have d21:decide (q<=20)=true:=NL h20
           repeat' first|refine gf (kf @hrx (kf @hlt (kf a0 (kf i0 (kf i1 @hEl))))) ?_|decide|refine sp ?_ ?_<;>intro _|refine cA hAr ?_|fail
           refine ⟨by omega,?_⟩
           repeat' first|refine gf (kf @hrx (kf @hlt (kf a0 (kf i0 (kf i1 @hEl))))) ?_|decide|refine sp ?_ ?_<;>intro _|refine cA hAr ?_|fail
           refine ae (fun st=>∃ k:Nat,k<=N.length /\ st=⟨229,[(1,a7 l),(2,.op 0 0 0),(5,.sl 9 ((l.map al.op).map lF)),(6,sI c),(7,.op 1 0 0),(9,gV (bm E)),(10,.osl 3),(11,.osl 2),(12,eI (q:Int)),(13,eI (i:Int)),(14,.osl 4),(15,eI (k:Int))],[(0,some (.box 32 (aQ m))),(1,some (.box 44 [.sl 6 (N.map fG),.sl 1 (ja E)])),(2,some (.row 3 1 (ip w))),(3,some (.row 51 1 E1)),(4,some (.row 4 1 (dZ (bv (cZ m c N x) (List.replicate N.length false) k))))],5⟩) (fun st=>N.length - aq st 15) ⟨_,(wE (kf @fk @PA)),0,Nv _,rfl⟩ ?_;rintro _ ⟨k,hk,rfl⟩;by_cases hlk:k<N.length
           .obtain ⟨y,hy⟩:∃ y,y=N[k]:=⟨_,rfl⟩;have hry:(N.map fG)[k]?.getD []=fG y:=by rw [hy];simp [hlk]
            have hyB:=hXk.bnd y (hy ▸ Nt hlk);have hAt:=zO m c y x (by omega) (by omega) (by omega) (by omega) (by omega) hr (by have:=hyB.z.cl;omega) (by omega) (by have:=hyB.did;omega) (by have:=hyB.cnt;omega) hyB.z.at_ hyB.opn hyB.don hyB.dok;have hv:(cZ m c N x).getD k false=xk m c y x:=by rw [hy];simp [cZ,List.getD,hlk]
            have ul:=dh (new:=cZ m c N x) (old:=List.replicate N.length false) (by rw [hatl,bl]) (j:=k) (by rw [bl];omega);have ul2:=dh (new:=cZ m c N x) (old:=List.replicate N.length false) (by rw [hatl,bl]) (j:=k+1) (by rw [bl];omega);have r1:=io (new:=cZ m c N x) (old:=List.replicate N.length false) (by rw [hatl,bl]) (j:=k) (by rw [bl];omega);have hset:=gi (new:=cZ m c N x) (old:=List.replicate N.length false) (by rw [hatl,bl]) (j:=k) (by rw [bl];omega)
            have r2:(dZ (bv (cZ m c N x) (List.replicate N.length false) (k+1)))[k]?.getD []=[eB (xk m c y x)]:=by
             rw [<- hset,hv];simp [ul,bl,hlk]
            rw [bl] at ul ul2;rw [hv] at hset;obtain ⟨v,hv2⟩:∃ v,v=xk m c y x:=⟨_,rfl⟩;rw [<- hv2] at hAt hset r2;obtain ⟨Z,hZ⟩:∃ Z,Z=dZ (bv (cZ m c N x) (List.replicate N.length false) k):=⟨_,rfl⟩;obtain ⟨Z2,hZ2⟩:∃ Z,Z=dZ (bv (cZ m c N x) (List.replicate N.length false) (k+1)):=⟨_,rfl⟩;have Zl:Z.length=N.length:=(by rw [hZ,NI,ul]);have Zl2:Z2.length=N.length:=(by rw [hZ2,NI,ul2]);rw [<- hZ2] at r2 hset;rw [<- hZ] at r1 hset ⊢
            repeat' first|refine ge (kf @hlk @hEl) ?_|decide|refine sp ?_ ?_<;>intro _
            refine aD [4] [0,1,2,3,4,5,6,7,8,9,10,11,12] (.exec 13 (.take 14 (.exec 15 .done))) (by kernel_rfl) (by simp [af.gc]) ?_
            repeat' first|refine ge (kf @hlk (kf @hry (kf @hrx (kf @hlt Zl)))) ?_|decide|refine sp ?_ ?_<;>intro _
            refine aw hAt ?_
            repeat' first|refine ge (kf @hlk (kf @hry (kf @hrx (kf @hlt (kf Zl (kf r1 (kf @hset (kf d20 d21)))))))) ?_|decide|refine sp ?_ ?_<;>intro _
            refine aw hAr ?_
            repeat' first|refine ge a0 ?_|decide|refine sp ?_ ?_<;>intro _
            exact rI (wE hZ2) ⟨k+1,by omega,rfl⟩
           .have hkN:k=N.length:=(by omega);subst hkN
            have eB2:bv (cZ m c N x) (List.replicate N.length false) N.length=cZ m c N x:=by
             have:=gx (new:=cZ m c N x) (old:=List.replicate N.length false) (by rw [hatl,bl])
             rwa [bl] at this
            rw [eB2]
            repeat' first|refine gf (kf @hlk @hEl) ?_|decide|refine sp ?_ ?_<;>intro _|(with_reducible apply And.intro)
            all_goals first
             | rfl
             | omega
             | exact mX hlt (wS [0,1,2,6] (kf et (kf hq hw))) (by simp only [aq,aj.get,aX,↓reduceIte,Nat.reduceLT,Nat.reduceEqDiff];omega)
          .have d20:decide ((q:Int)<=20)=false:=NE (by omega);have d21:decide (q<=20)=false:=NE h20
           repeat' first|refine gf (kf @hrx (kf @hlt (kf a0 (kf i0 (kf i1 @hEl))))) ?_|decide|refine sp ?_ ?_<;>intro _|refine cA hAr ?_|fail
           refine ⟨by omega,?_⟩
           repeat' first|refine gf (kf @hrx (kf @hlt (kf a0 (kf i0 (kf i1 @hEl))))) ?_|decide|refine sp ?_ ?_<;>intro _|refine cA hAr ?_|fail
           refine ae (fun st=>∃ k:Nat,k<=N.length /\ st=⟨229,[(1,a7 l),(2,.op 0 0 0),(5,.sl 9 ((l.map al.op).map lF)),(6,sI c),(7,.op 1 0 0),(9,gV (bm E)),(10,.osl 3),(11,.osl 2),(12,eI (q:Int)),(13,eI (i:Int)),(14,.osl 4),(15,eI (k:Int))],[(0,some (.box 32 (aQ m))),(1,some (.box 44 [.sl 6 (N.map fG),.sl 1 (ja E)])),(2,some (.row 3 1 (ip w))),(3,some (.row 51 1 E1)),(4,some (.row 4 1 (dZ (bv (cZ m c N x) (List.replicate N.length false) k))))],5⟩) (fun st=>N.length - aq st 15) ⟨_,(wE (kf @fk @PA)),0,Nv _,rfl⟩ ?_;rintro _ ⟨k,hk,rfl⟩;by_cases hlk:k<N.length
           .obtain ⟨y,hy⟩:∃ y,y=N[k]:=⟨_,rfl⟩;have hry:(N.map fG)[k]?.getD []=fG y:=by rw [hy];simp [hlk]
            have hyB:=hXk.bnd y (hy ▸ Nt hlk);have hAt:=zO m c y x (by omega) (by omega) (by omega) (by omega) (by omega) hr (by have:=hyB.z.cl;omega) (by omega) (by have:=hyB.did;omega) (by have:=hyB.cnt;omega) hyB.z.at_ hyB.opn hyB.don hyB.dok;have hv:(cZ m c N x).getD k false=xk m c y x:=by rw [hy];simp [cZ,List.getD,hlk]
            have ul:=dh (new:=cZ m c N x) (old:=List.replicate N.length false) (by rw [hatl,bl]) (j:=k) (by rw [bl];omega);have ul2:=dh (new:=cZ m c N x) (old:=List.replicate N.length false) (by rw [hatl,bl]) (j:=k+1) (by rw [bl];omega);have r1:=io (new:=cZ m c N x) (old:=List.replicate N.length false) (by rw [hatl,bl]) (j:=k) (by rw [bl];omega);have hset:=gi (new:=cZ m c N x) (old:=List.replicate N.length false) (by rw [hatl,bl]) (j:=k) (by rw [bl];omega)
            have r2:(dZ (bv (cZ m c N x) (List.replicate N.length false) (k+1)))[k]?.getD []=[eB (xk m c y x)]:=by
             rw [<- hset,hv];simp [ul,bl,hlk]
            rw [bl] at ul ul2;rw [hv] at hset;obtain ⟨v,hv2⟩:∃ v,v=xk m c y x:=⟨_,rfl⟩;rw [<- hv2] at hAt hset r2;obtain ⟨Z,hZ⟩:∃ Z,Z=dZ (bv (cZ m c N x) (List.replicate N.length false) k):=⟨_,rfl⟩;obtain ⟨Z2,hZ2⟩:∃ Z,Z=dZ (bv (cZ m c N x) (List.replicate N.length false) (k+1)):=⟨_,rfl⟩;have Zl:Z.length=N.length:=(by rw [hZ,NI,ul]);have Zl2:Z2.length=N.length:=(by rw [hZ2,NI,ul2]);rw [<- hZ2] at r2 hset;rw [<- hZ] at r1 hset ⊢
            repeat' first|refine ge (kf @hlk @hEl) ?_|decide|refine sp ?_ ?_<;>intro _
            refine aD [4] [0,1,2,3,4,5,6,7,8,9,10,11,12] (.exec 13 (.take 14 (.exec 15 .done))) (by kernel_rfl) (by simp [af.gc]) ?_
            repeat' first|refine ge (kf @hlk (kf @hry (kf @hrx (kf @hlt Zl)))) ?_|decide|refine sp ?_ ?_<;>intro _
            refine aw hAt ?_
            repeat' first|refine ge (kf @hlk (kf @hry (kf @hrx (kf @hlt (kf Zl (kf r1 (kf @hset (kf d20 d21)))))))) ?_|decide|refine sp ?_ ?_<;>intro _
            exact rI (wE hZ2) ⟨k+1,by omega,rfl⟩
           .have hkN:k=N.length:=(by omega);subst hkN
            have eB2:bv (cZ m c N x) (List.replicate N.length false) N.length=cZ m c N x:=by
             have:=gx (new:=cZ m c N x) (old:=List.replicate N.length false) (by rw [hatl,bl])
             rwa [bl] at this
            rw [eB2]
            repeat' first|refine gf (kf @hlk @hEl) ?_|decide|refine sp ?_ ?_<;>intro _|(with_reducible apply And.intro)
            all_goals first
             | rfl
             | omega
             | exact mX hlt (wS [0,1,2,6] (kf et (kf hq hw))) (by simp only [aq,aj.get,aX,↓reduceIte,Nat.reduceLT,Nat.reduceEqDiff];omega)
       .have hlt:¬ l.length<l.length:=(by omega);by_cases h20:ft m c N l<=20
        .have d20:decide ((20:Int)<(ft m c N l:Int))=false:=NE (by omega);have d21:decide (20<ft m c N l)=false:=NE (by omega);have hcl:=qj m c N l
         have hco:∀ x ∈ eL m c N l,aB x:=fun x hx=>by
          obtain ⟨k,hk,rfl⟩:=NC.1 hx;have:=hFb l k;unfold aB;omega
         obtain ⟨t,ht,hCl⟩:=x0 (bm E) (eL m c N l) (by omega) hnx.row (by omega) hco;have hcn:=Em (bm E) (eL m c N l) t;have hcL:=gh (bm E) (eL m c N l) t;have hB:=GS ht hin;have hmb:=me (next:=bm E) (col:=eL m c N l) t;have hcol:=fun {i j}=>GM (next:=bm E) (col:=eL m c N l) t (i:=i) (j:=j);obtain ⟨g,hg⟩:∃ g,g=bA (bm E) (eL m c N l) t:=⟨_,rfl⟩;rw [<- hg] at hCl hcn hcL hB hmb hcol;have hSh:=CS (bm E) g (by omega) hnx.row hcL hcn.1 hcn.2 hmb.1 hmb.2;have n1:((N.length:Int) != (N.length:Int))=false:=(by simp)
         repeat' first|refine gf (kf @hlt (kf d20 (kf d21 (kf @hcL (kf @hnl (kf n1 @hEl)))))) ?_|decide|refine sp ?_ ?_<;>intro _|refine cA hCl ?_|refine cA hSh ?_|fail
         have hKl:(ig (bm E) g).length=l9 g:=(by simp [ig]);have hKm:((l9 g:Nat):Int)=br g:=by unfold l9;omega
         have hsemA:=hB;obtain ⟨S,hS⟩:∃ S,S=ig (bm E) g:=⟨_,rfl⟩;rw [<- hS] at hB hKl hSh ⊢;obtain ⟨K,hK⟩:∃ K,K=l9 g:=⟨_,rfl⟩;rw [<- hK] at hKl hKm
         have hgz:∀ k,k<N.length -> ∃ z:Nat,g.getD k 0=(z:Int) /\ z<K:=fun k hk=>by
          have hk2:k<g.length:=(by omega);have h1:=hcn.2 _ (Nt hk2);refine ⟨g[k].toNat,?_,by omega⟩;simp [List.getD,hk2];omega
         obtain ⟨bt,hbt⟩:∃ bt:al -> List Bool,bt=fun x=>fm g K (cZ m c N x) N.length:=⟨_,rfl⟩;refine ae (fun st=>∃ i:Nat,i<=l.length /\ st=⟨229,[(1,a7 l),(5,.sl 9 ((l.map al.op).map lF)),(9,gV (bm E)),(10,.osl 0),(16,sI g),(17,gV S),(18,.osl 1),(19,eI (i:Int))],[(0,some (.row 51 1 (cN (l.map (cZ m c N))))),(1,some (.row 51 1 (cN ((l.take i).map bt))))],2⟩) (fun st=>l.length - aq st 19) ⟨_,((aR 18 51 1 (by simp only [ia,aj.get,aX,aj.put,↓reduceIte,reduceCtorEq,Nat.reduceLT,Nat.reduceEqDiff,Nat.reduceAdd,Nat.reduceLeDiff,eq_self,implies_true,NJ,N3,cN])).trans (wS [3,4] (kf @NJ @cN.eq_1))),0,Nv _,rfl⟩ ?_;rintro _ ⟨i,hil2,rfl⟩;by_cases hli:i<l.length
         .obtain ⟨x,hx2⟩:∃ x,x=l[i]:=⟨_,rfl⟩
          have et:cN ((l.take (i+1)).map bt)=cN ((l.take i).map bt) ++ [[j2 (bt x)]]:=by
           rw [Ns hli,<- hx2];simp [cN]
          have hEl2:(cN ((l.take i).map bt)).length<=64:=by simp [cN];omega
          have hrl:(cN (l.map (cZ m c N)))[i]?.getD []=[j2 (cZ m c N x)]:=by rw [hx2];simp [cN,hli]
          have hll2:(cN (l.map (cZ m c N))).length=l.length:=(by simp [cN]);have hbx:bt x=fm g K (cZ m c N x) N.length:=(by rw [hbt]);have haN:=hatl x;obtain ⟨A,hA⟩:∃ A,A=cZ m c N x:=⟨_,rfl⟩;rw [<- hA] at hrl hbx haN;obtain ⟨E1,hE1⟩:∃ E1,E1=cN ((l.take i).map bt):=⟨_,rfl⟩;rw [<- hE1] at et hEl2 ⊢;obtain ⟨L1,hL1⟩:∃ L1,L1=cN (l.map (cZ m c N)):=⟨_,rfl⟩;rw [<- hL1] at hrl hll2 ⊢;have k0:(0:Int)<=(K:Int):=(by omega);have k1:(K:Int)<=16777216:=(by omega);have hrep:List.replicate K [AV.c (.bool false)]=dZ (fm g K A 0):=by rw [yX];simp
          repeat' first|refine gf (kf @hli (kf @hKl (kf k0 (kf k1 @hrep)))) ?_|decide|refine sp ?_ ?_<;>intro _
          refine ⟨by omega,?_⟩;refine ae (fun st=>∃ k:Nat,k<=N.length /\ st=⟨229,[(1,a7 l),(5,.sl 9 ((l.map al.op).map lF)),(9,gV (bm E)),(10,.osl 0),(16,sI g),(17,gV S),(18,.osl 1),(19,eI (i:Int)),(20,.osl 2),(21,eI (k:Int))],[(0,some (.row 51 1 L1)),(1,some (.row 51 1 E1)),(2,some (.row 4 1 (dZ (fm g K A k))))],3⟩) (fun st=>N.length - aq st 21) ⟨_,wC,0,Nv _,rfl⟩ ?_;rintro _ ⟨k,hk3,rfl⟩;by_cases hlk:k<N.length
          .obtain ⟨z,hz1,hz2⟩:=hgz k hlk;have hgl2:k<g.length:=(by omega);have rg:(ip g)[k]?.getD []=[eI (z:Int)]:=by rw [<- hz1];simp [List.getD,hgl2]
           have ra:(dZ A)[k]?.getD []=[eB (A.getD k false)]:=(by simp [List.getD,show k<A.length by omega]);have hset:=Bz g K A hz2 hz1;have ll:=fq g K A k;obtain ⟨v,hv⟩:∃ v,v=A.getD k false:=⟨_,rfl⟩;rw [<- hv] at ra hset;have e0:decide ((z:Int)<0)=false:=NE (by omega);have e1:decide ((K:Int)<=(z:Int))=false:=NE (by omega);have e2:decide (K<=z)=false:=NE (by omega);have hkA:k<A.length:=(by omega);have hzr:∃ b,(dZ (fm g K A k))[z]?.getD []=[b]:=⟨eB ((fm g K A k).getD z false),by simp [List.getD,show z<(fm g K A k).length by omega]⟩;obtain ⟨b0,hb0⟩:=hzr
           repeat' first|refine ge (kf @hli (kf @hlk (kf @hgl2 (kf @hKl (kf @hEl (kf @hll2 (kf rg (kf e0 (kf e1 e2))))))))) ?_|decide|refine sp ?_ ?_<;>intro _
           refine aD [2] [0,1,2,3,4,5,6,7,8,9,10,11,12] (.exec 13 .done) (by kernel_rfl) (by simp [af.gc]) ?_
           repeat' first|refine gf (kf @hli (kf @hlk (kf @hgl2 (kf @hkA (kf hz2 (kf @hll2 (kf ll (kf rg (kf ra (kf @hrl (kf hb0 @hset))))))))))) ?_|decide|refine sp ?_ ?_<;>intro _|(with_reducible apply And.intro)
           all_goals first
            | rfl
            | omega
            | exact rI (wE @hset) ⟨k+1,by omega,rfl⟩
          .have hkN:k=N.length:=(by omega);subst hkN;rw [<- hbx]
           repeat' first|refine gf (kf @hlk @hEl) ?_|decide|refine sp ?_ ?_<;>intro _|(with_reducible apply And.intro)
           all_goals first
            | rfl
            | omega
            | exact rI (wS [0,4] (kf et (kf hL1 hE1))) ⟨i+1,by omega,rfl⟩
         .obtain rfl:i=l.length:=by omega
          rw [NG];have hSN:S.length=K:=hKl
          have hKN:K<=N.length:=by
           have:=hmb.2;omega
          have hxS:um S:=by
           refine ⟨by omega,fun r hr=>?_,fun r hr x hx=>?_⟩
           .rw [hS] at hr;obtain ⟨k,_,rfl⟩:=NC.1 hr;exact mp hnx.row
           .have:=hB.ins r hr x hx;unfold aB;omega
          have hbl:∀ x,(bt x).length=S.length:=fun x=>by rw [hbt,hSN];exact fq _ _ _ _
          have hpu:∀ x ∈ l,aC x.op=0 -> cZ m c N x=dg (fun i=>(eT g (i:Int)).toNat) (bm E).length (bt x):=fun x hxl ha=>by
           have e:cZ m c N x=dg (fun i=>(eT g (i:Int)).toNat) N.length (bt x):=by
            refine de (by rw [hatl,bC]) fun i hi=>?_;rw [hatl] at hi;obtain ⟨z,hz1,hz2⟩:=hgz i hi
            have hgi:eT g (i:Int)=(z:Int):=by
             rw [cu (by omega),<- hz1];simp [List.getD,show i<g.length by omega]
            rw [bB _ _ hi,hgi,Ou,hbt];rw [yG g K (cZ m c N x) N.length (fun i j hi hj hij=>?_) hi hz2 hz1]
            have h1:=hcol (i:=i) (j:=j) (by omega) (by omega) (by
             rw [cu (by omega),cu (by omega)];simpa [List.getD,show i<g.length by omega,show j<g.length by omega] using hij)
            rw [cu (by omega),cu (by omega)] at h1;have e1:=mt m c N l hi;have e2:=mt m c N l hj;simp only [List.getD,Nq (show i<(eL m c N l).length by omega),Nq (show j<(eL m c N l).length by omega),NX] at e1 e2;exact A5 (cZ m c N) l (by unfold ft at h20;omega) (by rw [<- e1,<- e2,h1]) x hxl ha
           rw [e,hnl]
          have hsem:=D5 hB hrow (fun x _ _=>hbl x) hpu;have hA:=y5 l (bm E) (cZ m c N) 1 hnx hrow (fun x _ _=>by rw [hatl,hnl]) (by omega) l.length (l.length - 1) (by omega) (by omega);have hBt:=y5 l S bt 1 hxS hrow (fun x _ _=>hbl x) (by omega) l.length (l.length - 1) (by omega) (by omega);rw [show l.length - 1+1=l.length by omega,NG] at hA hBt;obtain ⟨_,hBl⟩:=Hk (next:=S) (at_:=bt) hrow fun x _ _=>hbl x;have sA:dU (ct (bm E) (cZ m c N) l)=qo (bm E) (cZ m c N) l:=rfl;have sB:dU (ct S bt l)=qo S bt l:=rfl;rw [sA,hsem,hnl] at hA;rw [sB] at hBt;obtain ⟨B0,hB0⟩:∃ B0,B0=qo S bt l:=⟨_,rfl⟩;rw [<- hB0] at hA hBt hBl;obtain ⟨A0,hA0⟩:∃ A0,A0=dg (fun i=>(eT g (i:Int)).toNat) N.length B0:=⟨_,rfl⟩;have hAl:A0.length=N.length:=(by rw [hA0,bC]);rw [<- hA0] at hA;have ew:IntKind.i64.wrap ((l.length:Int) - 1)=((l.length - 1:Nat):Int):=by rw [ar (by omega) (by omega)];omega
          repeat' first|refine ge (kf @hli ew) ?_|decide|refine sp ?_ ?_<;>intro _
          refine nv [0] (R:=⟨j2 A0,[],0⟩) ?_ ?_ ?_
          .repeat' first|decide|refine go ?_
           exact hA
          .repeat' first|decide|refine go ?_
           left;simp [pi,yS,bV,dk]
          repeat' first|refine ge (kf @bK ew) ?_|decide|refine sp ?_ ?_<;>intro _
          refine nv [1] (R:=⟨j2 B0,[],0⟩) ?_ ?_ ?_
          .repeat' first|decide|refine go ?_
           exact hBt
          .repeat' first|decide|refine go ?_
           left;simp [pi,yS,bV,dk]
          repeat' first|refine ge @bK ?_|decide|refine sp ?_ ?_<;>intro _
          refine ae (fun st=>∃ k:Nat,k<=N.length /\ st=⟨229,[(9,gV (bm E)),(16,sI g),(22,j2 A0),(23,j2 B0),(24,eI (k:Int))],[],0⟩) (fun st=>N.length - aq st 24) ⟨_,wC,0,Nv _,rfl⟩ ?_;rintro _ ⟨k,hk3,rfl⟩;by_cases hlk:k<N.length
          .obtain ⟨z,hz1,hz2⟩:=hgz k hlk;have hgl2:k<g.length:=(by omega);have hkA:k<A0.length:=(by omega);have hzB:z<B0.length:=(by omega);have rg:(ip g)[k]?.getD []=[eI (z:Int)]:=by rw [<- hz1];simp [List.getD,hgl2]
           have hgi:eT g (k:Int)=(z:Int):=by
            rw [cu hgl2,<- hz1];simp [List.getD,hgl2]
           have rb:(dZ B0)[z]?.getD []=[eB (B0.getD z false)]:=(by simp [List.getD,hzB]);have hav:A0.getD k false=B0.getD z false:=(by rw [hA0,bB _ _ hlk,hgi,Ou]);have ra:(dZ A0)[k]?.getD []=[eB (B0.getD z false)]:=by rw [<- hav];simp [List.getD,hkA]
           obtain ⟨v,hv⟩:∃ v,v=B0.getD z false:=⟨_,rfl⟩;rw [<- hv] at ra rb;have q1:(!(v == v))=false:=(by simp);have q2:(v != v)=false:=(by simp)
           repeat' first|refine gf (kf @hlk (kf @hgl2 (kf @hkA (kf @hzB (kf rg (kf ra (kf rb (kf q1 (kf q2 @hEl))))))))) ?_|decide|refine sp ?_ ?_<;>intro _
           all_goals exact rI wC ⟨k+1,by omega,rfl⟩
          .repeat' first|refine gf (kf @hlk (kf (show ¬ k<N.length from hlk) @hEl)) ?_|decide|refine sp ?_ ?_<;>intro _|((with_reducible first|apply aw (g:=9)|apply aL (g:=9));exact cy)
        .have d20:decide ((20:Int)<(ft m c N l:Int))=true:=NL (by omega);have d21:decide (20<ft m c N l)=true:=NL (by omega)
         repeat' first|refine gf (kf @hlt (kf d20 d21)) ?_|decide|refine sp ?_ ?_<;>intro _|((with_reducible first|apply aw (g:=9)|apply aL (g:=9));exact cy)
     .have d6:decide ((6:Int)<(c.length:Int))=true:=NL (by omega)
      repeat' first|refine gf (kf d0 (kf z3 d6)) ?_|decide|refine sp ?_ ?_<;>intro _|refine cA hCk ?_|refine cA hC ?_|((with_reducible first|apply aw (g:=9)|apply aL (g:=9));exact cy)
    .have z0:(sm (l.map al.op) != 0)=true:=by simpa using hk
     repeat' first|refine gf (kf d0 z0) ?_|decide|refine sp ?_ ?_<;>intro _|refine cA hCk ?_|((with_reducible first|apply aw (g:=9)|apply aL (g:=9));exact cy)
 .have d0:decide ((40:Int)<(l.length:Int))=true:=NL (by omega);by_cases hl70:l.length<=70
  .refine bI (zH l hl70) (ro) ?_
   repeat' first|refine ge @bK ?_|decide|refine sp ?_ ?_<;>intro _
   refine gA (ou m) fun b hb=>?_
   cases b with
   | true=>(repeat' (first | refine gq ?_ | decide | refine sp ?_ ?_<;>intro _ | ((with_reducible first | apply aw (g:=9) | apply aL (g:=9));exact cy)))
   | false=>
    repeat' first|refine go ?_|decide|refine sp ?_ ?_<;>intro _
    refine gA (lV m (hb rfl) hp) fun b hck=>?_
    cases b with
    | false=>(repeat' (first | refine gq ?_ | decide | refine sp ?_ ?_<;>intro _ | ((with_reducible first | apply aw (g:=9) | apply aL (g:=9));exact cy)))
    | true=>(repeat' (first | refine gf d0 ?_ | decide | refine sp ?_ ?_<;>intro _ | ((with_reducible first | apply aw (g:=9) | apply aL (g:=9));exact cy)))
  .refine ce (AA l (by omega) hll) (ro) ?_
   repeat' first|refine go ?_|decide|refine sp ?_ ?_<;>intro _
   refine gA (ou m) fun b hb=>?_
   cases b with
   | true=>(repeat' (first | refine gq ?_ | decide | refine sp ?_ ?_<;>intro _ | ((with_reducible first | apply aw (g:=9) | apply aL (g:=9));exact cy)))
   | false=>
    repeat' first|refine go ?_|decide|refine sp ?_ ?_<;>intro _
    refine gA (lV m (hb rfl) hp) fun b hck=>?_
    cases b with
    | false=>(repeat' (first | refine gq ?_ | decide | refine sp ?_ ?_<;>intro _ | ((with_reducible first | apply aw (g:=9) | apply aL (g:=9));exact cy)))
    | true=>(repeat' (first | refine gf d0 ?_ | decide | refine sp ?_ ?_<;>intro _ | ((with_reducible first | apply aw (g:=9) | apply aL (g:=9));exact cy)))
end
end
section
section
open Go.ChangeShapes Go.WideShapes Go.ChangeAt Go.RowKit
theorem Cr {α:Type} {r:ij α} {w:World} {S:Nat -> Prop} {v:Value} {l:List α} (h:(aV r).one w S v l):l.length<=9223372036854775807:=by
 obtain ⟨A,c,h1,h2,h3⟩:=fX h;omega
theorem M8:Tryz.prog.globalNamed Tryz.powName=some 0:=by kernel_rfl
theorem M9:(Tryz.prog.globals[0]?).map (·.type)=some 256:=by kernel_rfl
theorem Dm:(Rows.laid_internal_strconv_uint64pow10:DataW Unit)=Lib.tabData .u64 Lib.pow10Tab:=by kernel_rfl
theorem wH {W:World} (h:laidMetH Tryz.prog Rows.quotTrueRow.laid W):Mc W:=by
 rw [MakeChecks.laidMetH_plain _ _ _ (by kernel_rfl)] at h;obtain ⟨ps,⟨g0,t0,cs0,f0,p0,q0,hg0,ht0,hv0,hd0,⟨g1,t1,cs1,f1,p1,q1,hg1,ht1,hv1,hd1,⟨g2,t2,cs2,f2,p2,q2,hg2,ht2,hv2,hd2,_,_⟩,_⟩,_⟩,_⟩:=h;obtain rfl:=OX (M8.symm.trans hg2);obtain rfl:=OX (M9.symm.trans ht2);rw [Dm] at hd2;refine (show W.var? Tryz.prog Tryz.powName=some cs2 from hv2).trans ?_;rw [<- Lib.cells_of_tab Tryz.underlying256 Tryz.underlying229 (by kernel_rfl) (by kernel_rfl) hd2]
end
end
end Go.Proofs.YtiaiihjmmfakdaaGreatDoor
