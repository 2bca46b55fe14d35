/-
  Parts of the proof: Clp32, Clp33, Clp34, Clp35, Clp36.
-/
import Derived.Test.YtmmoidfcfjklaaaGreatClq9
import Derived.Test.YtmmoidfcfjklaaaGreatRows
set_option linter.unusedVariables false
set_option linter.unusedSimpArgs false
set_option linter.defProp false
set_option maxRecDepth 100000
set_option maxHeartbeats 16000000
namespace Go.Proofs.YtmmoidfcfjklaaaGreat
open Go.RowKit
section
section
deriving instance DecidableEq for Nd
theorem u4 (a b:Nd) (h1:a.z.cls.length<=1000000) (h2:a.z.gaps.length<=1000000) (h3:a.did.length<=1000000) (h4:a.cnt.length<=1000000):aw Tryz.prog 80 [.agg (iQ a),.agg (iQ b)] (val (.bool (decide (a=b)))):=by
 refine aa ag Tryz.func80 rfl (by decide) Tryz.ntmps80 Tryz.results80 rfl (aI _) ?_;obtain ⟨t,ht,hZ⟩:=lU (Eo a.z b.z h1 h2);have hD:=Bv a.did b.did h3;have hC:=Bv a.cnt b.cnt h4
 have e:decide (a=b)=(t && ((a.opn == b.opn) && ((a.don == b.don) && (decide (a.did=b.did) && decide (a.cnt=b.cnt))))):=by
  obtain ⟨az,ao,ad,ai,ac⟩:=a;obtain ⟨bz,bo,bd,bi,bc⟩:=b;rw [Ws];simp only [VJ,VB,Wu,Nd.mk.injEq];rw [ht]
 rw [e]
 cases t with
 | false=>(repeat' (first | refine gf @VY ?_ | decide | refine sp ?_ ?_<;>intro _ | refine cA hZ ?_|fail))
 | true=>
  cases h5:a.opn == b.opn with
  | false=>(repeat' (first | refine gf (kf h5 (kf @VY @VX)) ?_ | decide | refine sp ?_ ?_<;>intro _ | refine cA hZ ?_|fail))
  | true=>
   cases h6:a.don == b.don with
   | false=>(repeat' (first | refine gf (kf h5 (kf h6 (kf @VY @VX))) ?_ | decide | refine sp ?_ ?_<;>intro _ | refine cA hZ ?_|fail))
   | true=>
    cases h7:decide (a.did=b.did) with
    | false=>
     rw [h7] at hD
     repeat' first|refine gf (kf h5 (kf h6 (kf @VY @VX))) ?_|decide|refine sp ?_ ?_<;>intro _|refine cA hZ ?_|refine cA hD ?_|fail
    | true=>
     rw [h7] at hD
     cases h8:decide (a.cnt=b.cnt) with
     | false=>
      rw [h8] at hC
      repeat' first|refine gf (kf h5 (kf h6 (kf @VY @VX))) ?_|decide|refine sp ?_ ?_<;>intro _|refine cA hZ ?_|refine cA hD ?_|refine cA hC ?_|fail
     | true=>
      rw [h8] at hC
      repeat' first|refine gf (kf h5 (kf h6 (kf @VY @VX))) ?_|decide|refine sp ?_ ?_<;>intro _|refine cA hZ ?_|refine cA hD ?_|refine cA hC ?_|fail
structure Sn where
 ev:Int
 us:Int
 nd:Nd
deriving DecidableEq
abbrev uC (x:Sn):List AV:=[eI x.ev,eI x.us,.sl 2 (x.nd.z.cls.map cO),sI x.nd.z.gaps,eI x.nd.opn,eI x.nd.don,sI x.nd.did,sI x.nd.cnt]
structure uM (N:Nat) (n:Nd):Prop where
 z:nk N n.z
 did:n.did.length<=10
 cnt:n.cnt.length<=10
 opn:aF n.opn
 don:aF n.don
 dok:∀ x ∈ n.did,aF x
theorem Nr (l:List Sn) (x:Sn) (hll:l.length<=2700000000000) {N:Nat} (hN:N<=1000000) (hl:∀ y ∈ l,uM N y.nd):aw Tryz.prog 78 [.sl 8 (l.map uC),.agg (uC x)] (val (.bool (decide (x ∈ l)))):=by
 refine aa ag Tryz.func78 rfl (by decide) Tryz.ntmps78 Tryz.results78 rfl (aI _) ?_
 repeat' first|refine go ?_|decide|refine sp ?_ ?_<;>intro _
 refine ae (fun st=>∃ k:Nat,k<=l.length /\ x ∉ l.take k /\ st=⟨40,[(0,.sl 8 (l.map uC)),(3,.op 0 0 0),(5,eI (k:Int))],[(0,some (.box 115 (uC x)))],1⟩) (fun st=>l.length - ap st 5) ⟨_,wC,0,Vd _,by simp,rfl⟩ ?_;rintro _ ⟨k,hk,hI,rfl⟩;by_cases hlt:k<l.length
 .obtain ⟨y,hy⟩:∃ y,y=l[k]:=⟨_,rfl⟩;have hrow:(l.map uC)[k]?.getD []=uC y:=by rw [hy];simp [hlt]
  have hB:=hl y (hy ▸ Vg hlt);have b1:=hB.z.cl;have b2:=hB.z.ga;have b3:=hB.did;have b4:=hB.cnt;have hS:=u4 y.nd x.nd (by omega) (by omega) (by omega) (by omega);have hm:x ∈ l.take (k+1) ↔ x ∈ l.take k \/ x=y:=by rw [Vi hlt,Vs,VH,hy]
  have q2:List.drop 2 (uC y)=iQ y.nd:=rfl;have next:¬ y=x -> x ∉ l.take (k+1):=fun hne h=>(hm.1 h).elim hI fun e=>hne e.symm
  cases h5:y.ev == x.ev with
  | false=>
   have hne:¬ y=x:=fun e=>by rw [e] at h5;simp at h5
   repeat' first|refine gf (kf @hrow (kf @hlt h5)) ?_|decide|refine sp ?_ ?_<;>intro _
   all_goals exact rI wC ⟨k+1,by omega,next hne,rfl⟩
  | true=>
   cases h6:y.us == x.us with
   | false=>
    have hne:¬ y=x:=fun e=>by rw [e] at h6;simp at h6
    repeat' first|refine gf (kf @hrow (kf @hlt (kf h5 h6))) ?_|decide|refine sp ?_ ?_<;>intro _
    all_goals exact rI wC ⟨k+1,by omega,next hne,rfl⟩
   | true=>
    cases h7:decide (y.nd=x.nd) with
    | false=>
     rw [h7] at hS;have hne:¬ y=x:=fun e=>by rw [e] at h7;simp at h7
     repeat' first|refine gf (kf @hrow (kf @hlt (kf h5 h6))) ?_|decide|refine sp ?_ ?_<;>intro _|refine cA hS ?_|fail
     all_goals exact rI wC ⟨k+1,by omega,next hne,rfl⟩
    | true=>
     rw [h7] at hS
     have he:x=y:=by
      obtain ⟨e1,e2,e3⟩:=x;obtain ⟨f1,f2,f3⟩:=y;simp at h5 h6 h7;rw [h5,h6,h7]
     have hmem:x ∈ l:=by rw [he,hy];exact Vg hlt
     rw [Vy hmem]
     repeat' first|refine gf (kf @hrow (kf @hlt (kf h5 h6))) ?_|decide|refine sp ?_ ?_<;>intro _|refine cA hS ?_|fail
     all_goals trace_state
 .obtain rfl:k=l.length:=by omega
  rw [Vq] at hI;rw [Vv hI]
  repeat' first|refine gf @hlt ?_|decide|refine sp ?_ ?_<;>intro _
def fp (m:bl) (n:Nd) (e:Nat) (u:Int):Nd:=⟨n.z,n.opn,n.don,n.did.set e (dN (n.did.getD e 0) u),if 0<(m.events[e]?.map (·.times)).getD 0 then n.cnt.set e (n.cnt.getD e 0+1) else n.cnt⟩
theorem Ow (m:bl) (n:Nd) (e:Nat) (u:Int) (he:e<m.events.length) (hd:e<n.did.length) (hc:e<n.cnt.length) (hdl:n.did.length<=1000000) (hcl:n.cnt.length<=1000000) (hdo:aF (n.did.getD e 0)) (hco:-1000<=n.cnt.getD e 0 /\ n.cnt.getD e 0<=1000) (hu:0<=u /\ u<31) :
  aw Tryz.prog 76 [.agg (aQ m),.agg (iQ n),eI (e:Int),eI u] ⟨.agg (iQ (fp m n e u)),[],0⟩:=by
 refine aw.still (R:=⟨.agg [.sl 2 (n.z.cls.map cO),sI n.z.gaps,eI n.opn,eI n.don,.osl 0,.osl 1],[(0,some (.row 3 1 ((fp m n e u).did.map fun n=>[eI n]))),(1,some (.row 3 1 ((fp m n e u).cnt.map fun n=>[eI n])))],2⟩) [0,1] ?_ (by simp [cS.frzs,cS.frz,af.gc,AV.frz,AV.frzL,b8,aD.frz,fp]) (by simp [AV.lt,AV.ltL]);refine aa ag Tryz.func76 rfl (by decide) Tryz.ntmps76 Tryz.results76 rfl (ls (by simp [cX,aD.lt,AV.ltL,AV.lt]) (by simp [AV.lt,AV.ltL])) ?_;obtain ⟨x,hx⟩:∃ x,x=m.events[e]:=⟨_,rfl⟩;have hrx:(m.events.map OU)[e]?.getD []=OU x:=by rw [hx];simp [he]
 obtain ⟨d,hde⟩:∃ d,d=n.did.getD e 0:=⟨_,rfl⟩;obtain ⟨c,hce⟩:∃ c,c=n.cnt.getD e 0:=⟨_,rfl⟩;have hrd:(n.did.map fun n=>[eI n])[e]?.getD []=[eI d]:=by rw [hde];simp [List.getD,hd]
 have hrc:(n.cnt.map fun n=>[eI n])[e]?.getD []=[eI c]:=by rw [hce];simp [List.getD,hc]
 rw [<- hde] at hdo;rw [<- hce] at hco;have hP:=sD d u true hdo hu.1 hu.2;rw [Vo rfl] at hP;have hsd:(n.did.map fun n=>[eI n]).set e [eI (dN d u)]=(fp m n e u).did.map fun n=>[eI n]:=by rw [fp,<- hde,W8]
 have ht:(m.events[e]?.map (·.times)).getD 0=x.times:=by rw [hx];simp [he]
 have ec:IntKind.i64.wrap (c+1)=c+1:=aB (by omega) (by omega)
 repeat' first|refine ge (kf @hrd hd) ?_|decide|refine sp ?_ ?_<;>intro _
 refine ⟨rfl,⟨by omega,by omega⟩,?_⟩;refine ax hP ?_
 repeat' first|refine ge (kf @hrd (kf hd @hsd)) ?_|decide|refine sp ?_ ?_<;>intro _
 refine ⟨rfl,⟨by omega,by omega⟩,?_⟩;by_cases h0:0<x.times
 .have d0:decide (0<x.times)=true:=Vy h0;have hsc:(n.cnt.map fun n=>[eI n]).set e [eI (c+1)]=(fp m n e u).cnt.map fun n=>[eI n]:=by rw [fp,ht,Vo h0,<- hce,W8]
  repeat' first|refine gf (kf @hrx (kf he (kf @hrc (kf hc (kf d0 (kf ec @hsc)))))) ?_|decide|refine sp ?_ ?_<;>intro _
  exact ⟨[4,6],by decide,rfl,by simp [cM,af.gc]⟩
 .have d0:decide (0<x.times)=false:=Vv h0;have hsc:(fp m n e u).cnt=n.cnt:=by rw [fp,ht,Vj h0]
  rw [hsc]
  repeat' first|refine gf (kf @hrx (kf he (kf @hrc (kf hc d0)))) ?_|decide|refine sp ?_ ?_<;>intro _
  exact ⟨[4,6],by decide,rfl,by simp [cM,af.gc]⟩
theorem vF (n:Nd) (h1:n.did.length<=1000000) (h2:n.cnt.length<=1000000):aw Tryz.prog 51 [.agg (iQ n)] ⟨.agg (gh (bu n)),[],0⟩:=
 dQ.tree (qC n h1 h2) (by simp [AV.lt,AV.ltL]) fun R hR=>by
  subst hR;exact ⟨[],by simp [cS.frzs,AV.lt,AV.ltL],.one (.agg ⟨.nil 1,.refl _,.refl _,.refl _,.refl _,trivial⟩)⟩
def f4 (m:bl) (x:Bool × Int):List ah:=if x.1=true then (if 0<=x.2 then ((m.miles[x.2.toNat]?).map (·.cond)).getD [] else []) else (if 0<=x.2 then ((m.guards[x.2.toNat]?).map (·.cond)).getD [] else [])
theorem IZ (m:bl) (xm:Bool) (xn:Int):aw Tryz.prog 122 [.agg (aQ m),.agg [eB xm,eI xn]] ⟨aX (f4 m (xm,xn)),[],0⟩:=by
 refine dQ.tree (Post:=fun R=>∃ ids,(R.frzs ids).r.lt 0 /\ oG (R.frzs ids).r (aX (f4 m (xm,xn)))) ?_ (by simp [AV.lt,AV.ltL]) fun R h=>h;refine bj ag Tryz.func122 rfl (by decide) Tryz.ntmps122 Tryz.results122 rfl ?_;have hI:=fun n most=>dX n most;have rN:oG (.c (.slice none 0 0)) (aX []):=.one (.one (.nil 7))
 cases xm with
 | true=>
  by_cases h0:0<=xn
  .obtain ⟨k,rfl⟩:∃ k:Nat,xn=(k:Int):=⟨xn.toNat,by omega⟩;by_cases hk:k<m.miles.length
   .obtain ⟨g,hg⟩:∃ g,g=m.miles[k]:=⟨_,rfl⟩;have hrg:(m.miles.map HH)[k]?.getD []=HH g:=by rw [hg];simp [hk]
    have e:f4 m (true,(k:Int))=g.cond:=(by simp [f4,hk,hg]);have hIn:eV (k:Int) (m.miles.length:Int)=true:=by simp [eV];omega
    rw [e]
    repeat' first|refine gf (kf @hrg (kf hk @hIn)) ?_|decide|refine sp ?_ ?_<;>intro _|refine cA (hI _ _) ?_|fail
    all_goals first|exact rF (by simp [AV.ren]) (by simp [AV.lt]) rN|exact rF (by simp [AV.ren]) (by simp [AV.lt]) (.one (.one (.refl _)))
   .have e:f4 m (true,(k:Int))=[]:=(by simp [f4,hk]);have hIn:eV (k:Int) (m.miles.length:Int)=false:=by simp [eV];omega
    rw [e]
    repeat' first|refine gf @hIn ?_|decide|refine sp ?_ ?_<;>intro _|refine cA (hI _ _) ?_|fail
    all_goals first|exact rF (by simp [AV.ren]) (by simp [AV.lt]) rN|exact rF (by simp [AV.ren]) (by simp [AV.lt]) (.one (.one (.refl _)))
  .have e:f4 m (true,xn)=[]:=(by simp [f4,h0]);have hIn:eV xn (m.miles.length:Int)=false:=by simp [eV];omega
   rw [e]
   repeat' first|refine gf @hIn ?_|decide|refine sp ?_ ?_<;>intro _|refine cA (hI _ _) ?_|fail
   all_goals first|exact rF (by simp [AV.ren]) (by simp [AV.lt]) rN|exact rF (by simp [AV.ren]) (by simp [AV.lt]) (.one (.one (.refl _)))
 | false=>
  by_cases h0:0<=xn
  .obtain ⟨k,rfl⟩:∃ k:Nat,xn=(k:Int):=⟨xn.toNat,by omega⟩;by_cases hk:k<m.guards.length
   .obtain ⟨g,hg⟩:∃ g,g=m.guards[k]:=⟨_,rfl⟩;have hrg:(m.guards.map JL)[k]?.getD []=JL g:=by rw [hg];simp [hk]
    have e:f4 m (false,(k:Int))=g.cond:=(by simp [f4,hk,hg]);have hIn:eV (k:Int) (m.guards.length:Int)=true:=by simp [eV];omega
    rw [e]
    repeat' first|refine gf (kf @hrg (kf hk @hIn)) ?_|decide|refine sp ?_ ?_<;>intro _|refine cA (hI _ _) ?_|fail
    all_goals first|exact rF (by simp [AV.ren]) (by simp [AV.lt]) rN|exact rF (by simp [AV.ren]) (by simp [AV.lt]) (.one (.one (.refl _)))
   .have e:f4 m (false,(k:Int))=[]:=(by simp [f4,hk]);have hIn:eV (k:Int) (m.guards.length:Int)=false:=by simp [eV];omega
    rw [e]
    repeat' first|refine gf @hIn ?_|decide|refine sp ?_ ?_<;>intro _|refine cA (hI _ _) ?_|fail
    all_goals first|exact rF (by simp [AV.ren]) (by simp [AV.lt]) rN|exact rF (by simp [AV.ren]) (by simp [AV.lt]) (.one (.one (.refl _)))
  .have e:f4 m (false,xn)=[]:=(by simp [f4,h0]);have hIn:eV xn (m.guards.length:Int)=false:=by simp [eV];omega
   rw [e]
   repeat' first|refine gf @hIn ?_|decide|refine sp ?_ ?_<;>intro _|refine cA (hI _ _) ?_|fail
   all_goals first|exact rF (by simp [AV.ren]) (by simp [AV.lt]) rN|exact rF (by simp [AV.ren]) (by simp [AV.lt]) (.one (.one (.refl _)))
def cc (m:bl):bl:={ m with guards:=m.guards.map fun g=>{ g with cond:=[dD] },miles:=m.miles.map fun g=>{ g with cond:=[dD] } }
abbrev Uw:List AV:=[.c (.slice none 0 0),.c (.slice none 0 0),.c (.slice none 0 0),.c (.slice none 0 0),.c (.slice none 0 0),.c (.slice none 0 0),.c (.slice none 0 0),.c (.slice none 0 0),.c (.slice none 0 0),.c (.slice none 0 0)]
theorem Lv (m:bl) (hg:m.guards.length<=1000000) (hm:m.miles.length<=1000000):aw Tryz.prog 121 [.agg (aQ m)] ⟨.agg (aQ (cc m)),[],0⟩:=by
 refine aw.still (R:=⟨.agg [.sl 1 (m.attrs.map fun s=>[eS s]),sI m.inits,.sl 1 (m.users.map fun s=>[eS s]),.sl 2 (m.roles.map Tx),.sl 2 (m.stages.map Tx),.sl 5 (m.events.map OU),.osl 0,.osl 1,.sl 2 (m.sods.map Tq),.sl 2 (m.order.map yA)],[(0,some (.row 67 3 ((cc m).guards.map JL))),(1,some (.row 69 5 ((cc m).miles.map HH)))],2⟩) [0,1] ?_ (by simp [cS.frzs,cS.frz,af.gc,AV.frz,AV.frzL,b8,aD.frz,cc]) (by simp [AV.lt,AV.ltL]);refine aa ag Tryz.func121 rfl (by decide) Tryz.ntmps121 Tryz.results121 rfl (ls (by simp [cX,aD.lt,AV.ltL,AV.lt]) (by simp [AV.lt,AV.ltL])) ?_;have hT:aX [dD]=.sl 7 [[eI 1,eI 0,eI 0,eI 0,eI 0,eI 0,eI 0]]:=rfl
 repeat' first|refine go ?_|decide|refine sp ?_ ?_<;>intro _
 refine ae (fun st=>∃ k:Nat,k<=m.guards.length /\ st=⟨52,[(1,.op 0 0 0),(2,.op 1 0 0),(3,.osl 2),(4,eI (k:Int))],[(0,some (.box 32 (aQ m))),(1,some (.box 32 Uw)),(2,some (.row 67 3 (((cc m).guards.take k).map JL)))],3⟩) (fun st=>m.guards.length - ap st 4) ⟨_,((be 3 67 3 (by simp only [iz,aj.get,bb,aj.put,↓reduceIte,reduceCtorEq,Nat.reduceLT,Nat.reduceEqDiff,Nat.reduceAdd,Nat.reduceLeDiff,eq_self,implies_true,Vu,VL])).trans (wS [0,1,2] @Vu)),0,Vd _,rfl⟩ ?_;rintro _ ⟨k,hk,rfl⟩;have hol:(cc m).guards.length=m.guards.length:=by simp [cc]
 by_cases hlt:k<m.guards.length
 .obtain ⟨g,hge⟩:∃ g,g=m.guards[k]:=⟨_,rfl⟩;have hrg:(m.guards.map JL)[k]?.getD []=JL g:=by rw [hge];simp [hlt]
  have et:((cc m).guards.take (k+1)).map JL=((cc m).guards.take k).map JL ++ [[eI g.stage,eI g.event,.sl 7 [[eI 1,eI 0,eI 0,eI 0,eI 0,eI 0,eI 0]]]]:=by
   rw [Vi (by omega)];simp [cc,hge]
  have htl:((cc m).guards.take k).length<=1000000:=by rw [Vr];omega
  obtain ⟨O,hO⟩:∃ O,O=(cc m).guards.take k:=⟨_,rfl⟩;rw [<- hO] at et htl ⊢
  repeat' first|refine gf (kf @hrg @hlt) ?_|decide|refine sp ?_ ?_<;>intro _|(with_reducible apply And.intro)
  all_goals first
   | rfl
   | omega
   | exact rI (wS [0,1,6] (kf et hO)) ⟨k+1,by omega,rfl⟩
 .obtain rfl:k=m.guards.length:=by omega
  have ha:(cc m).guards.take m.guards.length=(cc m).guards:=VF (by omega);rw [ha]
  repeat' first|refine gf @hlt ?_|decide|refine sp ?_ ?_<;>intro _
  refine ae (fun st=>∃ k:Nat,k<=m.miles.length /\ st=⟨52,[(1,.op 0 0 0),(2,.op 1 0 0),(3,.osl 2),(6,.osl 3),(7,eI (k:Int))],[(0,some (.box 32 (aQ m))),(1,some (.box 32 Uw)),(2,some (.row 67 3 ((cc m).guards.map JL))),(3,some (.row 69 5 (((cc m).miles.take k).map HH)))],4⟩) (fun st=>m.miles.length - ap st 7) ⟨_,((be 6 69 5 (by simp only [iz,aj.get,bb,aj.put,↓reduceIte,reduceCtorEq,Nat.reduceLT,Nat.reduceEqDiff,Nat.reduceAdd,Nat.reduceLeDiff,eq_self,implies_true,Vu,VL])).trans (wS [0,1,2,3] @Vu)),0,Vd _,rfl⟩ ?_;rintro _ ⟨k,hk,rfl⟩;have hol2:(cc m).miles.length=m.miles.length:=by simp [cc]
  by_cases hlt2:k<m.miles.length
  .obtain ⟨g,hge⟩:∃ g,g=m.miles[k]:=⟨_,rfl⟩;have hrg:(m.miles.map HH)[k]?.getD []=HH g:=by rw [hge];simp [hlt2]
   have et:((cc m).miles.take (k+1)).map HH=((cc m).miles.take k).map HH ++ [[eS g.name,eI g.stage,eI g.event,.sl 7 [[eI 1,eI 0,eI 0,eI 0,eI 0,eI 0,eI 0]],eB g.final]]:=by
    rw [Vi (by omega)];simp [cc,hge]
   have htl:((cc m).miles.take k).length<=1000000:=by rw [Vr];omega
   obtain ⟨O,hO⟩:∃ O,O=(cc m).miles.take k:=⟨_,rfl⟩;rw [<- hO] at et htl ⊢
   repeat' first|refine gf (kf @hrg @hlt2) ?_|decide|refine sp ?_ ?_<;>intro _|(with_reducible apply And.intro)
   all_goals first
    | rfl
    | omega
    | exact rI (wS [0,1,2,7] (kf et hO)) ⟨k+1,by omega,rfl⟩
  .obtain rfl:k=m.miles.length:=by omega
   have ha2:(cc m).miles.take m.miles.length=(cc m).miles:=VF (by omega);rw [ha2]
   repeat' first|refine gf @hlt2 ?_|decide|refine sp ?_ ?_<;>intro _
   all_goals exact ⟨[2,3],by decide,rfl,by simp [cM,af.gc]⟩
theorem LJ {m:bl} (h:uX m):uX (cc m):=by
 refine ⟨?_,fun g hg=>?_,fun g hg=>?_,h.events⟩
 .have:=h.sizes;simpa [xf,cc] using this
 .obtain ⟨x,_,rfl⟩:=Vx.1 hg;simp
 .obtain ⟨x,_,rfl⟩:=Vx.1 hg;simp
theorem IY {m:bl} (h:uX m) (x:Bool × Int):(f4 m x).length<=80:=by
 unfold f4;split<;>split
 .cases he:m.miles[x.2.toNat]? with
  | none=>simp
  | some g=>simpa using h.miles g (Os he)
 .simp
 .cases he:m.guards[x.2.toNat]? with
  | none=>simp
  | some g=>simpa using h.guards g (Os he)
 .simp
noncomputable def tV (m:bl) (c:List Int) (z:Zn) (event:Int) (s:St) (x:Bool × Int):St:=if (ic (bG (f4 m x) z c s) && fW (cc m) s x event)=true then eW m s x else s
noncomputable def lk (m:bl) (c:List Int) (z:Zn) (event:Int) (k:Nat) (s:St):St:=(m.order.take k).foldl (tV m c z event) s
noncomputable def rg (m:bl) (c:List Int) (n:Nd) (event:Int):Nd:=⟨n.z,(lk m c n.z event m.order.length (bu n)).opn,(lk m c n.z event m.order.length (bu n)).don,n.did,n.cnt⟩
theorem qS {m:bl} {c:List Int} {z:Zn} {event:Int} {k:Nat} (s:St) (hk:k<m.order.length):lk m c z event (k+1) s=tV m c z event (lk m c z event k s) m.order[k]:=by
 unfold lk;rw [Vi hk,WK];rfl
theorem pS (m:bl) (c:List Int) (z:Zn) (event:Int) (s:St) (h:cR s.opn /\ cR s.don):∀ k,k<=m.order.length -> cR (lk m c z event k s).opn /\ cR (lk m c z event k s).don
 | 0,_=>by simpa [lk] using h
 | k+1,hk=>by
  rw [qS s (by omega)];have ih:=pS m c z event s h k (by omega);unfold tV;split
  .exact DX m _ _ ih
  .exact ih
theorem Ir (m:bl) (c:List Int) (n:Nd) (event:Int) (hf:uX m) (hp:∀ p ∈ m.stages,aF p.2) (hc:c.length<=1000) {N:Nat} (hN:N<=1000) (hB:uM N n) (ho:cR n.opn) (hd:cR n.don):aw Tryz.prog 77 [.agg (aQ m),sI c,.agg (iQ n),eI event] ⟨.agg (iQ (rg m c n event)),[],0⟩:=by
 obtain ⟨hgl,hml,hsl,hel,hal,hul,hrl,hsol,hol,hil⟩:=id hf.sizes;have hcl:=hB.z.cl;have hdl:=hB.did;have hcn:=hB.cnt;have hSt:=vF n (by omega) (by omega);have hFr:=Lv m (by omega) (by omega);refine aa ag Tryz.func77 rfl (by decide) Tryz.ntmps77 Tryz.results77 rfl (⟨fun id o h=>(by cases h),⟨trivial,trivial,trivial,trivial,trivial,trivial,trivial⟩⟩) ?_
 repeat' first|refine gq ?_|decide|refine sp ?_ ?_<;>intro _|refine cA hSt ?_|refine cA hFr ?_|fail
 refine ae (fun st=>∃ (k:Nat) (s:St),k<=m.order.length /\ s=lk m c n.z event k (bu n) /\ st=⟨61,[(1,sI c),(3,eI event),(4,.op 0 0 0),(6,.op 1 0 0),(8,.op 2 0 0),(9,.op 3 0 0),(10,.op 4 0 0),(11,eI (k:Int))],[(0,some (.box 32 (aQ m))),(1,some (.box 93 (iQ n))),(2,some (.box 93 [.c (.slice none 0 0),.c (.slice none 0 0),eI 0,eI 0,.c (.slice none 0 0),.c (.slice none 0 0)])),(3,some (.box 132 (gh s))),(4,some (.box 32 (aQ (cc m))))],5⟩) (fun st=>m.order.length - ap st 11) ⟨_,wC,0,bu n,Vd _,rfl,rfl⟩ ?_;rintro _ ⟨k,s,hk,hs,rfl⟩;have h31:=pS m c n.z event (bu n) ⟨ho,hd⟩ k hk;rw [<- hs] at h31;by_cases hlt:k<m.order.length
 .have hst:=qS (c:=c) (z:=n.z) (event:=event) (bu n) hlt;rw [<- hs] at hst;obtain ⟨x,hx⟩:∃ x,x=m.order[k]:=⟨_,rfl⟩;have hrx:(m.order.map yA)[k]?.getD []=yA x:=by rw [hx];simp [hlt]
  rw [<- hx] at hst;obtain ⟨xm,xn⟩:=x;have hC:=IZ m xm xn;have hcnl:=IY hf (xm,xn);have hH:=vd (f4 m (xm,xn)) n.z c s (by omega) (by omega) hc hB.z.at_ (dp h31.1) (dp h31.2);have hF:=wl (cc m) s xm xn event (LJ hf) (dp h31.1) (dp h31.2);have hFi:=Bn m s xm xn hf hp h31.1 h31.2;obtain ⟨b,hb⟩:∃ b,b=ic (bG (f4 m (xm,xn)) n.z c s):=⟨_,rfl⟩;obtain ⟨e,he⟩:∃ e,e=pX (bG (f4 m (xm,xn)) n.z c s):=⟨_,rfl⟩;have ht:tV m c n.z event s (xm,xn)=if (b && fW (cc m) s (xm,xn) event)=true then eW m s (xm,xn) else s:=by rw [tV,<- hb]
  rw [ht] at hst;rw [<- hb,<- he] at hH;obtain ⟨f,hff⟩:∃ f,f=fW (cc m) s (xm,xn) event:=⟨_,rfl⟩;rw [<- hff] at hF hst
  repeat' first|refine ge (kf @hrx @hlt) ?_|decide|refine sp ?_ ?_<;>intro _
  refine ay [] [0,1,3,4,5,6] (.exec 2 (.exec 7 (.take 8 (.take 9 (.take 10 (.exec 11 (.exec 12 .done))))))) (by kernel_rfl) (by simp [af.gc]) ?_
  cases b with
  | false=>
   rw [VY,Vj (by simp)] at hst
   repeat' first|refine gf (kf @hrx @hlt) ?_|decide|refine sp ?_ ?_<;>intro _|refine cA hC ?_|refine cA hH ?_|fail
   all_goals exact rI wC ⟨k+1,s,by omega,hst.symm,rfl⟩
  | true=>
   cases f with
   | false=>
    rw [VX,Vj (by simp)] at hst
    repeat' first|refine gf (kf @hrx @hlt) ?_|decide|refine sp ?_ ?_<;>intro _|refine cA hC ?_|refine cA hH ?_|refine cA hF ?_|fail
    all_goals exact rI wC ⟨k+1,s,by omega,hst.symm,rfl⟩
   | true=>
    rw [VX,Vo rfl] at hst
    repeat' first|refine gf (kf @hrx @hlt) ?_|decide|refine sp ?_ ?_<;>intro _|refine cA hC ?_|refine cA hH ?_|refine cA hF ?_|refine cA hFi ?_|fail
    all_goals exact rI wC ⟨k+1,eW m s (xm,xn),by omega,hst.symm,rfl⟩
 .obtain rfl:k=m.order.length:=by omega
  have hn:rg m c n event=⟨n.z,s.opn,s.don,n.did,n.cnt⟩:=by rw [rg,<- hs]
  rw [hn]
  repeat' first|refine gf @hlt ?_|decide|refine sp ?_ ?_<;>intro _
  all_goals exact fM rfl
structure gF (m:bl) (c:List Int):Prop where
 fit:uX m
 ck:Ju m
 clen:c.length<=9
 cok:∀ x ∈ c,aF x
 stg:∀ p ∈ m.stages,aF p.2
 rol:∀ p ∈ m.roles,aF p.2
noncomputable def gP (m:bl) (c:List Int) (n:Nd) (e:Nat) (u:Int) (zs:List Zn):List Sn:=zs.map fun z=>⟨(e:Int),u,rg m c { fp m n e u with z:=z } (e:Int)⟩
noncomputable def rm (m:bl) (e:Nat):List Int:=(m.events[e]?.map (·.sets)).getD []
noncomputable def dw (m:bl) (n:Nd) (e:Nat):List Zn:=uz n.z (rm m e) (ft m n.cnt m.events.length) (rm m e).length
noncomputable def nF (m:bl) (c:List Int) (n:Nd) (e:Nat):List Sn:=(fA m (bu n) (e:Int)).flatMap fun u=>gP m c n e u (dw m n e)
noncomputable def dy (m:bl) (c:List Int) (n:Nd) (k:Nat):List Sn:=(List.range k).flatMap (nF m c n)
open Classical in
noncomputable def kp (m:bl) (c:List Int) (n:Nd):List Sn:=if Er m c n then cn (dy m c n m.events.length) ++ (if se m (bu n)=true then [] else [⟨-1,-1,n⟩]) else []
end
section
def pi (l:List fU):Nat -> Nat
 | 0=>0
 | a+1=>pi l a+cH l (a:Int)
theorem vK (x:fU) (l:List fU):∀ k,pi (x :: l) k=pi [x] k+pi l k
 | 0=>rfl
 | k+1=>by
  have h:cH (x :: l) (k:Int)=cH [x] (k:Int)+cH l (k:Int):=by
   unfold cH;rw [List.countP_cons,List.countP_cons];simp;omega
  rw [pi,pi,pi,vK x l k,h];omega
theorem yJ {x:fU} {a:Nat} (h:bq x.attrs (a:Int)=true):∀ k,a<k -> 1<=pi [x] k
 | 0,hk=>absurd hk (by omega)
 | k+1,hk=>by
  rw [pi];by_cases e:a=k
  .have:cH [x] (k:Int)=1:=by rw [<- e];simp [cH,h]
   omega
  .have:=yJ h k (by omega);omega
theorem KI {x:fU} (h:0<x.attrs /\ x.attrs<2147483648):∃ a:Nat,a<31 /\ bq x.attrs (a:Int)=true:=by
 have hne:aN x ≠ 0:=by unfold aN;omega
 obtain ⟨i,hi⟩:∃ i,(aN x).testBit i=true:=Classical.byContradiction fun hn=>hne (Xs fun i=>by
  rw [Nat.zero_testBit]
  cases h2:(aN x).testBit i with
  | false=>rfl
  | true=>exact absurd ⟨i,h2⟩ hn)
 have h31:i<31:=by
  refine Classical.byContradiction fun hn=>?_;have h1:aN x<2 ^ i:=Vn (by unfold aN;omega:aN x<2 ^ 31) (VU (by omega) (by omega));rw [WF h1] at hi;cases hi
 exact ⟨i,h31,by rw [i5 ⟨by omega,h.2⟩ h31];exact hi⟩
theorem wb:∀ l:List fU,(∀ x ∈ l,(0<=x.attrs /\ x.attrs<2147483648) /\ (0<x.attrs \/ 0<=x.const)) -> l.length<=pi l 31+fE l
 | [],_=>Vd _
 | x :: l,h=>by
  have ih:=wb l fun y hy=>h y (V0 _ hy);obtain ⟨h1,h2⟩:=h x Wc
  have hn:fE (x :: l)=fE l+(if x.const = -1 then 0 else 1):=by
   unfold fE;rw [List.countP_cons];by_cases e:x.const = -1<;>simp [e]
  rw [vK,hn,VN];by_cases e:x.const = -1
  .obtain ⟨a,ha,hb⟩:=KI (x:=x) ⟨by omega,h1.2⟩;have:=yJ hb 31 ha;rw [Vo e];omega
  .rw [Vj e];omega
theorem OY {l:List fU} {n:Nat} (h:∀ a:Nat,a<31 -> (cH l (a:Int):Int)=if (a:Int)<(n:Int) then 1 else 0):∀ k,k<=31 -> pi l k<=n
 | 0,_=>Vd _
 | k+1,hk=>by
  have key:∀ j,j<=31 -> pi l j<=min j n:=fun j=>by
   induction j with
   | zero=>intro _;simp [pi]
   | succ j ih=>
    intro hj;have h1:=ih (by omega);have h2:=h j (by omega);rw [pi];split at h2<;>omega
  have:=key (k+1) hk;omega
theorem Cu {l:List fU} {n:Nat} {m:Int} (hn:n<=31) (hat:∀ x ∈ l,x.attrs<9223372036854775808) (h:rM l (n:Int) m):(l.length:Int)<=n+m:=by
 have hd:=(sZ l n m hn hat).2 h;rw [VB,VJ] at hd;obtain ⟨hb,hm⟩:=hd;obtain ⟨hA,hC⟩:=(D0 l (n:Int)).1 hb
 have h1:=wb l fun x hx=>by
  obtain ⟨i,hi,rfl⟩:=VD hx;obtain ⟨k1,k2,_⟩:=(nu _ _).1 (hC i hi);exact ⟨k1,k2⟩
 have h2:=OY ((Ei l (n:Int) 31).1 hA) 31 (Vh _);omega
theorem SV (m:bl) (c:List Int) {k:Nat} (hk:k<m.events.length) (h0:0<=m.events[k].times):Mn m c k<=m.events[k].times * (m.events[k].sets.length:Int):=by
 unfold Mn;have hw:=yG c k;simp only [p0 hk,VT,VG];have h1:(((max 0 (m.events[k].times - xI c k)).toNat:Nat):Int)<=m.events[k].times:=by omega
 exact Int.mul_le_mul_of_nonneg_right h1 (W4 _)
theorem Bh (m:bl) (c:List Int) (hw:o8 m.events):∀ k,k<=m.events.length -> ft m c k<=lG (m.events.take k)
 | 0,_=>by simp [ft,lG]
 | k+1,hk=>by
  have h1:=Bh m c hw k (by omega);have h2:=SV m c (k:=k) (by omega) (hw.each k (by omega)).1;rw [ft,ky (by omega)];omega
theorem NB (m:bl) (c:List Int) (k:Nat):0<=Mn m c k:=by
 unfold Mn;exact Int.mul_nonneg (W4 _) (W4 _)
theorem vl (m:bl) (c:List Int):∀ k,0<=ft m c k
 | 0=>Xo _
 | k+1=>by
  have:=vl m c k;have:=NB m c k;rw [ft];omega
theorem Bw {l:List Ev} (hw:o8 l):∀ {k:Nat} (hk:k<l.length) (n:Nat),k<n -> n<=l.length -> l[k].times * (l[k].sets.length:Int)<=lG (l.take n)
 | k,hk,0,h,_=>absurd h (by omega)
 | k,hk,n+1,h,hn=>by
  have h0:∀ i (hi:i<l.length),0<=l[i].times * (l[i].sets.length:Int):=fun i hi=>Int.mul_nonneg (hw.each i hi).1 (W4 _)
  have hp:∀ j,j<=l.length -> 0<=lG (l.take j):=fun j=>by
   induction j with
   | zero=>intro _;simp [lG]
   | succ j ih=>
    intro hj;have:=ih (by omega);have:=h0 j (by omega);rw [ky (by omega)];omega
  rw [ky (by omega)];by_cases e:k=n
  .subst e;have:=hp k (by omega);omega
  .have:=Bw hw hk n (by omega) (by omega);have:=h0 n (by omega);omega
theorem pu {m:bl} (h:Ju m) {k:Nat} (hk:k<m.events.length):m.events[k].sets.length<=4:=by
 have h1:=Bw h.writes hk m.events.length hk (Vh _);rw [Vq] at h1;have h2:=h.sum;obtain ⟨h3,h4,h5⟩:=h.writes.each k hk;by_cases e:m.events[k].times=0
 .have:=h5 e;omega
 .have h6:(1:Int) * (m.events[k].sets.length:Int)<=m.events[k].times * (m.events[k].sets.length:Int):=Int.mul_le_mul_of_nonneg_right (by omega) (W4 _);omega
theorem Ld {m:bl} (h:Ju m) (c:List Int):0<=ft m c m.events.length /\ ft m c m.events.length<=4:=by
 have h1:=Bh m c h.writes m.events.length (Vh _);rw [Vq] at h1;have h2:=h.sum;exact ⟨vl m c _,by omega⟩
theorem nk.mono {N M:Nat} {z:Zn} (h:nk N z) (hm:N<=M):nk M z:=⟨by have:=h.cl;omega,by have:=h.ga;omega,h.at_⟩
structure n9 (m:bl) (n:Nd):Prop where
 did:n.did.length=m.events.length
 cnt:n.cnt.length=m.events.length
 opn:cR n.opn
 don:cR n.don
 each:∀ i,i<m.events.length -> cR (n.did.getD i 0) /\ 0<=n.cnt.getD i 0 /\ n.cnt.getD i 0<=3
 z:nk 14 n.z
 gap:(n.z.gaps.length:Int)=max ((n.z.cls.length:Int) - 1) 0
theorem H9 {m:bl} {c:List Int} {n:Nd} (hE:gF m c) (hat:∀ x ∈ n.z.cls,aF x.attrs) (h:Er m c n):n9 m n:=by
 obtain ⟨h1,⟨⟨h2,h3,h4⟩,_⟩⟩:=h;unfold AF vR at h1;simp only [VB,VJ] at h1;obtain ⟨⟨⟨⟨⟨c1,c2⟩,c3⟩,c4⟩,c5⟩,c6⟩:=h1;have h5:=Cu (n:=m.attrs.length) (by have:=hE.ck.chk.attrs;omega) (fun x hx=>by have:=(hat x hx).2;omega) h3;have h6:=fB c;have h7:=hE.clen;have h8:=hE.ck.chk.attrs;refine ⟨c2,c3,p9 c4,p9 c5,fun i hi=>?_,⟨by omega,by have:=h4.1;omega,hat⟩,h4.1⟩;have h9:=(AO _ _).1 c6 i hi;unfold Ah at h9;simp only [VB,VJ,p0 hi,VT,VG] at h9;have h10:=(hE.ck.writes.each i hi).2.1;exact ⟨p9 h9.1.1,h9.1.2,by omega⟩
theorem tI {m:bl} {e:Nat} (he:e<m.events.length):rm m e=m.events[e].sets:=by simp [rm,he]
theorem Mg {m:bl} (h:Ju m) {e:Nat} (he:e<m.events.length):∀ a ∈ rm m e,0<=a /\ a<31:=by
 intro a ha;rw [tI he] at ha;obtain ⟨i,hi,rfl⟩:=VD ha;have h1:=((h.named.events e he).2.2 i hi).1;have h2:=h.chk.attrs;unfold eV at h1;simp only [VB,VJ] at h1;omega
theorem mW {f:Nat -> Bool}:∀ {n:Nat} {u:Int},u ∈ eh f n -> 0<=u /\ u<(n:Int)
 | 0,u,h=>by simp [eh] at h
 | n+1,u,h=>by
  rw [eh] at h;split at h
  .rcases Vs.1 h with h1 | h1
   .have:=mW h1;omega
   .simp at h1;omega
  .have:=mW h;omega
section
variable {m:bl} {c:List Int} {n:Nd}
theorem mh (hE:gF m c) (hK:n9 m n) {e:Nat} (he:e<m.events.length):UU 20 (dw m n e) /\ (dw m n e).length<=2000404224:=by
 have hs:=pu hE.ck he;rw [<- tI he] at hs;have hl:=(Ld hE.ck n.cnt).2;refine ⟨fun y hy=>?_,x9 (rm m e) hK.z hl _ (by omega)⟩;exact ((DZ (rm m e) hK.z hl _ (by omega)).1 y hy).mono (by omega)
theorem Lq (hB:uM 20 n) (hK:n9 m n) (e:Nat) (u:Int) (z:Zn) (hz:nk 20 z):uM 20 { fp m n e u with z:=z }:=by
 refine ⟨hz,?_,?_,hB.opn,hB.don,fun x hx=>?_⟩
 .simp only [fp,We];exact hB.did
 .simp only [fp];split
  .rw [We];exact hB.cnt
  .exact hB.cnt
 .simp only [fp] at hx;rcases Wk hx with h1|h1
  .exact hB.dok x h1
  .rw [h1];exact uj _ _
theorem QZ {N:Nat} (hB:uM N n) (ho:cR n.opn) (hd:cR n.don) (event:Int):uM N (rg m c n event):=by
 have h:=pS m c n.z event (bu n) ⟨ho,hd⟩ m.order.length (Vh _);exact ⟨hB.z,hB.did,hB.cnt,dp h.1,dp h.2,hB.dok⟩
theorem KC (hB:uM 20 n) (hK:n9 m n) (e:Nat) (u:Int) {zs:List Zn} (hz:UU 20 zs):∀ s ∈ gP m c n e u zs,uM 20 s.nd:=by
 intro s hs;obtain ⟨z,h1,rfl⟩:=Vx.1 hs;exact QZ (Lq hB hK e u z (hz z h1)) hK.opn hK.don _
theorem LK (hE:gF m c) (hB:uM 20 n) (hK:n9 m n) {e:Nat} (he:e<m.events.length):∀ s ∈ nF m c n e,uM 20 s.nd:=by
 intro s hs;obtain ⟨u,_,h1⟩:=V7.1 hs;exact KC hB hK e u (mh hE hK he).1 s h1
theorem te (hE:gF m c) (s:St) (e:Int):(fA m s e).length<=4:=by
 have h1:=mw (fun u=>dZ m s e (u:Int)) m.users.length;have h2:=hE.ck.chk.users;unfold fA;omega
theorem CE (hE:gF m c) (hK:n9 m n) {e:Nat} (he:e<m.events.length):(nF m c n e).length<=8001616896:=by
 have h1:=gW (fun u=>gP m c n e u (dw m n e)) 2000404224 (fA m (bu n) (e:Int)) fun u _=>by
  rw [gP,Vp];exact (mh hE hK he).2
 have h2:=te hE (bu n) (e:Int);have h3:=VE 2000404224 h2;unfold nF;omega
theorem kM (hE:gF m c) (hK:n9 m n):∀ k,k<=m.events.length -> (dy m c n k).length<=k * 8001616896
 | 0,_=>by simp [dy]
 | k+1,hk=>by
  have h1:=kM hE hK k (by omega);have h2:=CE hE hK (e:=k) (by omega)
  have h3:dy m c n (k+1)=dy m c n k ++ nF m c n k:=by
   unfold dy;rw [Wn,Wx];simp
  rw [h3,Vk,Xh];omega
theorem zZ (hE:gF m c) (hB:uM 20 n) (hK:n9 m n) {k:Nat} (hk:k<=m.events.length):∀ s ∈ dy m c n k,uM 20 s.nd:=by
 intro s hs;obtain ⟨e,he,h1⟩:=V7.1 hs;exact LK hE hB hK (by have:=WM.1 he;omega) s h1
theorem Nm (hE:gF m c) (hB:uM 20 n):∀ s ∈ kp m c n,uM 20 s.nd:=by
 intro s hs;unfold kp at hs;split at hs
 .rename_i hP;have hK:=H9 hE hB.z.at_ hP;rcases Vs.1 hs with h1|h1
  .rw [mO] at h1;exact zZ hE hB hK (Vh _) s h1
  .split at h1
   .simp at h1
   .simp only [VH] at h1;rw [h1];exact hB
 .simp at hs
end
end
end
section
section
theorem Ci {α:Type} [DecidableEq α] (l:List α) (x:α):cn (l ++ [x])=if x ∈ cn l then cn l else cn l ++ [x]:=by
 unfold cn;rw [WK];rfl
noncomputable def jV (m:bl) (c:List Int) (n:Nd) (e i j:Nat):List Sn:=
 dy m c n e ++ (((fA m (bu n) (e:Int)).take i).flatMap (fun u=>gP m c n e u (dw m n e)) ++ ((((fA m (bu n) (e:Int))[i]?.map fun u=>gP m c n e u (dw m n e)).getD []).take j))
theorem FT (m:bl) (c:List Int) (n:Nd) (e:Nat):jV m c n e 0 0=dy m c n e:=by simp [jV]
theorem Ga (m:bl) (c:List Int) (n:Nd) (e:Nat) {i:Nat} (hi:i<(fA m (bu n) (e:Int)).length):jV m c n e i (dw m n e).length=jV m c n e (i+1) 0:=by
 unfold jV;rw [Vi hi,p0 hi,Wx];simp only [VT,VG,Wt,Wl,Wr,Vu]
 congr 2
 exact VF (by rw [gP,Vp];exact Vh _)
theorem L7 (m:bl) (c:List Int) (n:Nd) (e:Nat):jV m c n e (fA m (bu n) (e:Int)).length 0=dy m c n (e+1):=by
 unfold jV dy;rw [Vq,Wn,Wx];simp [nF]
theorem FG (m:bl) (c:List Int) (n:Nd) (e:Nat) {i j:Nat} (hi:i<(fA m (bu n) (e:Int)).length) (hj:j<(dw m n e).length) :
  jV m c n e i (j+1)=jV m c n e i j ++ [⟨(e:Int),(fA m (bu n) (e:Int))[i],rg m c { fp m n e (fA m (bu n) (e:Int))[i] with z:=(dw m n e)[j] } (e:Int)⟩]:=by
 unfold jV;rw [p0 hi];simp only [VT,VG];rw [Vi (by simpa [gP] using hj)];simp [gP]
theorem Jk (m:bl) (c:List Int) (n:Nd) (e:Nat) {i j:Nat}:∀ s ∈ jV m c n e i j,s ∈ dy m c n (e+1):=by
 intro s hs;unfold dy;rw [Wn,Wx,Vs];unfold jV at hs;rcases Vs.1 hs with h|h
 .exact .inl h
 .right;simp only [Wt,Wl,Wr];unfold nF;rcases Vs.1 h with h1|h1
  .obtain ⟨u,hu,h2⟩:=V7.1 h1;exact V7.2 ⟨u,VR hu,h2⟩
  .have h2:=VR h1
   cases hw:(fA m (bu n) (e:Int))[i]? with
   | none=>rw [hw] at h2;simp at h2
   | some u=>
    rw [hw] at h2;exact V7.2 ⟨u,Os hw,h2⟩
theorem Lw {m:bl} {c:List Int} {n:Nd} (hE:gF m c) (hK:n9 m n) {e i j:Nat} (he:e<m.events.length):(jV m c n e i j).length<=72014552064:=by
 have h1:=kM hE hK e (by omega);have h2:=hE.ck.chk.events
 have h3:=gW (fun u=>gP m c n e u (dw m n e)) 2000404224 ((fA m (bu n) (e:Int)).take i) fun u _=>by
  rw [gP,Vp];exact (mh hE hK he).2
 have h4:=te hE (bu n) (e:Int);have h5:((fA m (bu n) (e:Int)).take i).length<=4:=by rw [Vr];omega
 have h6:=VE 2000404224 h5
 have h7:(((((fA m (bu n) (e:Int))[i]?.map fun u=>gP m c n e u (dw m n e)).getD []).take j)).length<=2000404224:=by
  rw [Vr]
  cases hw:(fA m (bu n) (e:Int))[i]? with
  | none=>simp
  | some u=>
   have:=(mh hE hK he).2;simp [gP];omega
 have h8:=VE 8001616896 (show e<=6 by omega);unfold jV;rw [Vk,Vk];omega
theorem Iy (m:bl) (c:List Int) (n:Nd) (hE:gF m c) (hB:uM 20 n):aw Tryz.prog 34 [.agg (aQ m),sI c,.agg (iQ n)] ⟨.sl 8 ((kp m c n).map uC),[],0⟩:=by
 refine iJ 115 ?_;refine bj ag Tryz.func34 rfl (by decide) Tryz.ntmps34 Tryz.results34 rfl ?_;have hf:=hE.fit;have hck:=hE.ck;obtain ⟨hgl,hml,hsl,hel,hal,hul,hrl,hsol,hol,hil⟩:=id hf.sizes;have hcl:=hB.z.cl;have hga:=hB.z.ga;have hdl:=hB.did;have hcn:=hB.cnt;have hc9:=hE.clen
 have hm:∀ e ∈ m.events,e.times<=10 /\ e.sets.length<=10:=fun x hx=>by
  obtain ⟨i,hi,rfl⟩:=VD hx;have h1:=(hck.writes.each i hi).2.1;have h2:=pu hck hi;exact ⟨by omega,by omega⟩
 obtain ⟨t,ht,hC⟩:=lU (xo m c n hel hm (by omega) (by omega) (by omega) (by omega) hE.cok hB.z.at_ (by omega) (by omega) hB.opn hB.don hB.dok);have hSt:=vF n (by omega) (by omega)
 cases t with
 | false=>
  have hn:kp m c n=[]:=Vj fun h=>by have:=ht.2 h;cases this
  rw [hn]
  repeat' first|refine gq ?_|decide|refine sp ?_ ?_<;>intro _|refine cA hC ?_|fail
  all_goals exact cI (i6 rfl)
 | true=>
  have hP:=ht.1 rfl;have hK:=H9 hE hB.z.at_ hP;have hn:kp m c n=cn (dy m c n m.events.length) ++ (if se m (bu n)=true then [] else [⟨-1,-1,n⟩]):=Vo hP;rw [hn];have hos:aF (bu n).opn:=hB.opn;have hds:aF (bu n).don:=hB.don;have hdis:∀ x ∈ (bu n).did,aF x:=hB.dok;have hL:=tr m n.cnt hel hm (by omega);have hle:=Ld hck n.cnt;have hA:=IR m (bu n) (by omega) (by omega) (by omega) (by omega) hos hds hE.rol hdis;obtain ⟨s,hs⟩:∃ s,s=bu n:=⟨_,rfl⟩
  repeat' first|refine gq ?_|decide|refine sp ?_ ?_<;>intro _|refine cA hC ?_|refine cA hSt ?_|fail
  refine ae (fun st=>∃ e:Nat,e<=m.events.length /\ st=⟨102,[(1,sI c),(3,.op 0 0 0),(5,.op 1 0 0),(7,.osl 3),(8,.op 2 0 0),(9,eI (e:Int))],[(0,some (.box 32 (aQ m))),(1,some (.box 93 (iQ n))),(2,some (.box 132 (gh (bu n)))),(3,some (.row 115 8 ((cn (dy m c n e)).map uC)))],4⟩) (fun st=>m.events.length - ap st 9) ⟨_,((be 7 115 8 (by simp only [iz,aj.get,bb,aj.put,↓reduceIte,reduceCtorEq,Nat.reduceLT,Nat.reduceEqDiff,Nat.reduceAdd,Nat.reduceLeDiff,eq_self,implies_true,dy,WN,Wl,cn,WV,VL])).trans (wS [0,1,2,3] (kf @dy.eq_1 (kf @WN (kf @Wl (kf @cn.eq_1 @WV)))))),0,Vd _,rfl⟩ ?_;rintro _ ⟨e,he,rfl⟩;by_cases hlt:e<m.events.length
  .obtain ⟨x,hx⟩:∃ x,x=m.events[e]:=⟨_,rfl⟩;have hrx:(m.events.map OU)[e]?.getD []=OU x:=by rw [hx];simp [hlt]
   have hse:rm m e=x.sets:=by rw [hx];exact tI hlt
   have hsl4:=pu hck hlt;rw [<- hx] at hsl4;have hW:=FQ n.z x.sets (ft m n.cnt m.events.length) hK.z (by omega) (by rw [<- hse];exact Mg hck hlt) ⟨by omega,hle.2⟩;have hze:dw m n e=uz n.z x.sets (ft m n.cnt m.events.length) x.sets.length:=(by rw [dw,hse]);rw [<- hze] at hW;obtain ⟨hzB,hzl⟩:=mh hE hK hlt;have hWho:=BZ m (bu n) (e:Int) (by omega) (by omega) (by omega) hos hds hE.rol hdis;have hWhoT:aw Tryz.prog 75 [.agg (aQ m),.agg (gh (bu n)),eI (e:Int)] ⟨sI (fA m (bu n) (e:Int)),[],0⟩:=aw.still [0] hWho (by simp [cS.frzs,cS.frz,g8,af.gc,AV.frz]) (by simp [AV.lt]);have hwl:=te hE (bu n) (e:Int)
   have hwm:∀ u ∈ fA m (bu n) (e:Int),0<=u /\ u<31:=fun u hu=>by
    have:=mW hu;omega
   have hz0:=FT m c n e;have hall:=L7 m c n e
   repeat' first|refine ge (kf @hrx @hlt) ?_|decide|refine sp ?_ ?_<;>intro _
   refine ay [] [0,1,2,3,4,5,6,7,8,9,10] (.exec 11 (.exec 12 (.exec 13 .done))) (by kernel_rfl) (by simp [af.gc]) ?_
   repeat' first|refine gf (kf @hrx @hlt) ?_|decide|refine sp ?_ ?_<;>intro _|refine cA hL ?_|refine cA hW ?_|refine cA hWhoT ?_|fail
   refine ae (fun st=>∃ i:Nat,i<=(fA m (bu n) (e:Int)).length /\ st=⟨102,[(1,sI c),(3,.op 0 0 0),(5,.op 1 0 0),(7,.osl 3),(8,.op 2 0 0),(9,eI (e:Int)),(10,.sl 2 ((dw m n e).map cw)),(11,sI (fA m (bu n) (e:Int))),(12,eI (i:Int))],[(0,some (.box 32 (aQ m))),(1,some (.box 93 (iQ n))),(2,some (.box 132 (gh (bu n)))),(3,some (.row 115 8 ((cn (jV m c n e i 0)).map uC)))],4⟩) (fun st=>(fA m (bu n) (e:Int)).length - ap st 12) ⟨_,(wE hz0),0,Vd _,rfl⟩ ?_;rintro _ ⟨i,hi,rfl⟩;by_cases hli:i<(fA m (bu n) (e:Int)).length
   .have hsuc:=fun j (hj:j<(dw m n e).length)=>FG m c n e hli hj;have hnx:=Ga m c n e hli;obtain ⟨W,hWe⟩:∃ W,W=fA m (bu n) (e:Int):=⟨_,rfl⟩;obtain ⟨u,hu⟩:∃ u,u=(fA m (bu n) (e:Int))[i]:=⟨_,rfl⟩;have hru:((fA m (bu n) (e:Int)).map fun n=>[eI n])[i]?.getD []=[eI u]:=by rw [hu];simp [hli]
    have huo:=hwm u (hu ▸ Vg hli);have hk:=hK.each e hlt;have hTk:=Ow m n e u hlt (by have:=hK.did;omega) (by have:=hK.cnt;omega) (by omega) (by omega) (dp hk.1) ⟨by omega,by omega⟩ huo;have hTB:=fun z (hz:nk 20 z)=>Lq hB hK e u z hz;simp only [<- hu] at hsuc;obtain ⟨T,hTe⟩:∃ T,T=fp m n e u:=⟨_,rfl⟩;rw [<- hTe] at hTk hTB hsuc;have hTz:T.opn=n.opn /\ T.don=n.don:=by rw [hTe];exact ⟨rfl,rfl⟩
    repeat' first|refine ge (kf @hru @hli) ?_|decide|refine sp ?_ ?_<;>intro _
    refine ay [] [0,1,2,3,4,5,6] (.two 7 (.exec 8 (.exec 9 .done)) 8 (.exec 7 (.exec 9 .done))) (by kernel_rfl) (by simp [af.gc]) ?_
    repeat' first|refine gf (kf @hru @hli) ?_|decide|refine sp ?_ ?_<;>intro _|refine cA hTk ?_|(with_reducible apply And.intro)
    all_goals
     refine ae (fun st=>∃ (j:Nat) (z:Zn),j<=(dw m n e).length /\ st=⟨102,[(1,sI c),(3,.op 0 0 0),(5,.op 1 0 0),(7,.osl 3),(8,.op 2 0 0),(9,eI (e:Int)),(10,.sl 2 ((dw m n e).map cw)),(11,sI (fA m (bu n) (e:Int))),(12,eI (i:Int)),(13,.op 4 0 0),(14,eI (j:Int))],[(0,some (.box 32 (aQ m))),(1,some (.box 93 (iQ n))),(2,some (.box 132 (gh (bu n)))),(3,some (.row 115 8 ((cn (jV m c n e i j)).map uC))),(4,some (.box 93 (iQ { T with z:=z })))],5⟩) (fun st=>(dw m n e).length - ap st 14) ⟨_,wC,0,T.z,Vd _,rfl⟩ ?_;rintro _ ⟨j,z0,hj,rfl⟩;by_cases hlj:j<(dw m n e).length
     .obtain ⟨z,hz⟩:∃ z,z=(dw m n e)[j]:=⟨_,rfl⟩;have hrz:((dw m n e).map cw)[j]?.getD []=cw z:=by rw [hz];simp [hlj]
      have hzB2:=hzB z (hz ▸ Vg hlj);have hs1:=hsuc j hlj;rw [<- hz] at hs1;have hNB:=hTB z hzB2;have hPs:=Ir m c { T with z:=z } (e:Int) hf hE.stg (by omega) (N:=20) (by omega) hNB (by rw [show ({ T with z:=z }:Nd).opn=n.opn from hTz.1];exact hK.opn) (by rw [show ({ T with z:=z }:Nd).don=n.don from hTz.2];exact hK.don);have hal:=Lw (c:=c) (i:=i) (j:=j) hE hK hlt;have hul:=mP (jV m c n e i j)
      have hsub:∀ y ∈ cn (jV m c n e i j),uM 20 y.nd:=fun y hy=>by
       rw [mO] at hy;exact zZ hE hB hK (by omega) y (Jk m c n e y hy)
      have hus:=Ci (jV m c n e i j) ⟨(e:Int),u,rg m c { T with z:=z } (e:Int)⟩;rw [<- hs1] at hus;obtain ⟨P,hPe⟩:∃ P,P=rg m c { T with z:=z } (e:Int):=⟨_,rfl⟩;rw [<- hPe] at hPs hus;obtain ⟨A,hA2⟩:∃ A,A=cn (jV m c n e i j):=⟨_,rfl⟩;rw [<- hA2] at hul hsub hus ⊢;have hH:=Nr A ⟨(e:Int),u,P⟩ (by omega) (N:=20) (by omega) hsub;by_cases hmem:(⟨(e:Int),u,P⟩:Sn) ∈ A
      .rw [Vo hmem] at hus;rw [Vy hmem] at hH
       repeat' first|refine ge (kf @hlj @hrz) ?_|decide|refine sp ?_ ?_<;>intro _
       refine ay [] [0,1,2,3,4,5,6,7,8] (.two 9 (.take 10 (.exec 11 (.exec 12 .done))) 11 (.exec 9 (.take 10 (.exec 12 .done)))) (by kernel_rfl) (by simp [af.gc]) ?_
       repeat' first|refine gf (kf @hru (kf @hli (kf @hlj @hrz))) ?_|decide|refine sp ?_ ?_<;>intro _|refine cA hPs ?_|refine cA hH ?_|(with_reducible apply And.intro)
       all_goals exact rI (wE @hus) ⟨j+1,z,by omega,rfl⟩
      .rw [Vj hmem] at hus;rw [Vv hmem] at hH;have et:(cn (jV m c n e i (j+1))).map uC=A.map uC ++ [uC ⟨(e:Int),u,P⟩]:=by rw [hus];simp
       repeat' first|refine ge (kf @hlj @hrz) ?_|decide|refine sp ?_ ?_<;>intro _
       refine ay [] [0,1,2,3,4,5,6,7,8] (.two 9 (.take 10 (.exec 11 (.exec 12 .done))) 11 (.exec 9 (.take 10 (.exec 12 .done)))) (by kernel_rfl) (by simp [af.gc]) ?_
       repeat' first|refine gf (kf @hru (kf @hli (kf @hlj @hrz))) ?_|decide|refine sp ?_ ?_<;>intro _|refine cA hPs ?_|refine cA hH ?_|(with_reducible apply And.intro)
       all_goals first
        | rfl
        | omega
        | exact rI (wS [0,1,2,7,4] (kf et hA2)) ⟨j+1,z,by omega,rfl⟩
     .obtain rfl:j=(dw m n e).length:=by omega
      rw [hnx]
      repeat' first|refine gf @hlj ?_|decide|refine sp ?_ ?_<;>intro _
      all_goals exact rI wC ⟨i+1,by omega,rfl⟩
   .obtain rfl:i=(fA m (bu n) (e:Int)).length:=by omega
    repeat' first|refine gf @hli ?_|decide|refine sp ?_ ?_<;>intro _
    all_goals exact rI (wE @hall) ⟨e+1,by omega,rfl⟩
  .obtain rfl:e=m.events.length:=by omega
   have hUl:=mP (dy m c n m.events.length);have hNl:=kM hE hK m.events.length (Vh _);have hev:=hck.chk.events;have hNl2:=VE 8001616896 hev;obtain ⟨U,hU⟩:∃ U,U=cn (dy m c n m.events.length):=⟨_,rfl⟩;rw [<- hU] at hUl ⊢
   cases hb:se m (bu n) with
   | true=>
    rw [hb] at hA;rw [Vo rfl,Wr]
    repeat' first|refine gf @hlt ?_|decide|refine sp ?_ ?_<;>intro _|refine cA hA ?_|fail
    all_goals exact tt rfl i9
   | false=>
    rw [hb] at hA;rw [Vj (by simp)];have et:(U ++ [(⟨-1,-1,n⟩:Sn)]).map uC=U.map uC ++ [uC ⟨-1,-1,n⟩]:=(by simp);rw [et]
    repeat' first|refine gf @hlt ?_|decide|refine sp ?_ ?_<;>intro _|refine cA hA ?_|(with_reducible apply And.intro)
    all_goals first
     | rfl
     | omega
     | exact tt rfl i9
end
section
theorem HU {α:Type} [DecidableEq α] {x:α}:∀ {l:List α} {k:Nat} (hk:k<l.length),l[k]=x -> x ∉ l.take k -> l.idxOf x=k
 | y :: l,0,_,h,_=>by
  have:y=x:=h;rw [this,List.idxOf_cons_self]
 | y :: l,k+1,hk,h,hn=>by
  have h1:x ≠ y /\ x ∉ l.take k:=by simpa using hn
  have hb:(y == x)=false:=VP.2 (Ne.symm h1.1);rw [List.idxOf_cons,hb,cond_false,HU (by simpa using hk) (by simpa using h) h1.2]
 | [],k,hk,_,_=>absurd hk (by simp)
def wB (l:List Nd) (n:Nd):Int:=if n ∈ l then (l.idxOf n:Int) else -1
theorem KE (l:List Nd) (n:Nd) (hll:l.length<=2700000000000) {N:Nat} (hN:N<=1000000) (hl:∀ y ∈ l,uM N y):aw Tryz.prog 35 [.sl 6 (l.map iQ),.agg (iQ n)] (val (.int .i64 (wB l n))):=by
 refine aa ag Tryz.func35 rfl (by decide) Tryz.ntmps35 Tryz.results35 rfl (aI _) ?_
 repeat' first|refine go ?_|decide|refine sp ?_ ?_<;>intro _
 refine ae (fun st=>∃ k:Nat,k<=l.length /\ n ∉ l.take k /\ st=⟨19,[(0,.sl 6 (l.map iQ)),(3,.op 0 0 0),(5,eI (k:Int))],[(0,some (.box 93 (iQ n)))],1⟩) (fun st=>l.length - ap st 5) ⟨_,wC,0,Vd _,by simp,rfl⟩ ?_;rintro _ ⟨k,hk,hI,rfl⟩;by_cases hlt:k<l.length
 .obtain ⟨y,hy⟩:∃ y,y=l[k]:=⟨_,rfl⟩;have hrow:(l.map iQ)[k]?.getD []=iQ y:=by rw [hy];simp [hlt]
  have hB:=hl y (hy ▸ Vg hlt);have b1:=hB.z.cl;have b2:=hB.z.ga;have b3:=hB.did;have b4:=hB.cnt;have hS:=u4 y n (by omega) (by omega) (by omega) (by omega);have hm:n ∈ l.take (k+1) ↔ n ∈ l.take k \/ n=y:=by rw [Vi hlt,Vs,VH,hy]
  cases h7:decide (y=n) with
  | false=>
   rw [h7] at hS;have hne:¬ y=n:=fun e=>by rw [e] at h7;simp at h7
   repeat' first|refine gf (kf @hrow @hlt) ?_|decide|refine sp ?_ ?_<;>intro _|refine cA hS ?_|fail
   all_goals exact rI wC ⟨k+1,by omega,fun h=>(hm.1 h).elim hI fun e=>hne e.symm,rfl⟩
  | true=>
   rw [h7] at hS;have he:y=n:=(by simpa using h7);have hmem:n ∈ l:=by rw [<- he,hy];exact Vg hlt
   have hix:wB l n=(k:Int):=by
    rw [wB,Vo hmem,HU hlt (by rw [<- hy];exact he) hI]
   rw [hix]
   repeat' first|refine gf (kf @hrow @hlt) ?_|decide|refine sp ?_ ?_<;>intro _|refine cA hS ?_|fail
 .obtain rfl:k=l.length:=by omega
  rw [Vq] at hI;have hix:wB l n = -1:=Vj hI;rw [hix]
  repeat' first|refine gf @hlt ?_|decide|refine sp ?_ ?_<;>intro _
def jJ (N:List Nd) (l:List Sn) (r:List nT):Prop:=r.length=l.length /\ ∀ j (h:j<l.length) (h2:j<r.length),r[j].ev=l[j].ev /\ r[j].us=l[j].us /\ 0<=r[j].dst /\ N[r[j].dst.toNat]? = some l[j].nd
theorem jJ.mono {N N':List Nd} {l:List Sn} {r:List nT} (h:jJ N l r) (hp:N <+: N'):jJ N' l r:=by
 obtain ⟨t,rfl⟩:=hp;refine ⟨h.1,fun j h1 h2=>?_⟩;obtain ⟨k1,k2,k3,k4⟩:=h.2 j h1 h2;exact ⟨k1,k2,k3,by rw [VO (Vf.1 k4).1];exact k4⟩
theorem jJ.snoc {N:List Nd} {l:List Sn} {r:List nT} {k:Nat} (hk:k<l.length) (h:jJ N (l.take k) r) {e:nT} (he:e.ev=l[k].ev /\ e.us=l[k].us /\ 0<=e.dst /\ N[e.dst.toNat]? = some l[k].nd):jJ N (l.take (k+1)) (r ++ [e]):=by
 have hl:r.length=k:=by
  have:=h.1;rw [Vr] at this;omega
 refine ⟨by rw [Vk,Vz,Vr];omega,fun j h1 h2=>?_⟩;by_cases e1:j=k
 .subst e1
  have:(r ++ [e])[j]=e:=by
   rw [Xk (by omega)];simp [hl]
  rw [this,List.getElem_take];exact he
 .have h3:j<k:=by
   rw [Vr] at h1;omega
  have h4:=h.2 j (by rw [Vr];omega) (by omega);rw [W7 (by omega),List.getElem_take];rw [List.getElem_take] at h4;exact h4
structure uO (m:bl) (c:List Int) (N:List Nd) (E:List (List nT)) (k:Nat):Prop where
 first:N[0]? = some (qK m c (eT m))
 len:E.length=k
 le:k<=N.length
 nd:N.Nodup
 bnd:∀ n ∈ N,uM 20 n
 rows:∀ i (h:i<N.length) (h2:i<E.length),jJ N (kp m c N[i]) E[i]
structure O0 (m:bl) (c:List Int) (N0 N:List Nd) (L:List Sn) (r:List nT) (i:Nat):Prop where
 pre:N0 <+: N
 len:N.length<=N0.length+i
 nd:N.Nodup
 bnd:∀ n ∈ N,uM 20 n
 edg:jJ N (L.take i) r
def Js (m:bl) (c:List Int) (most:Nat) (R:cS):Prop:=R=⟨.tup [.agg [.c (.slice none 0 0),.c (.slice none 0 0)],eB false],[],0⟩ \/ ∃ N E,uO m c N E N.length /\ N.length<=most /\ R=⟨.tup [.agg [.sl 6 (N.map iQ),.sl 1 (ib E)],eB true],[],0⟩
def UD (m:bl) (c:List Int) (most:Nat) (R:cS):Prop:=R=⟨.tup [.agg [.c (.slice none 0 0),.c (.slice none 0 0)],eB false],[],0⟩ \/ ∃ N E,uO m c N E N.length /\ N.length<=most /\ R=⟨.tup [.agg [.osl 0,.osl 1],eB true],[(0,some (.row 93 6 (N.map iQ))),(1,some (.row 64 1 (ib E)))],2⟩
theorem Rq {P:Program} {f:FuncId} {args:List AV} {m:bl} {c:List Int} {most:Nat} (h:dQ P f args (UD m c most)):dQ P f args (Js m c most):=
 (((h.frz 0).frz 1).drop).mono fun R hR=>by
  obtain ⟨R1,⟨R2,⟨R3,h3,rfl⟩,rfl⟩,h4⟩:=hR;rcases h3 with rfl|⟨N,E,h5,h6,rfl⟩
  .rcases h4 with ⟨_,rfl⟩ | ⟨h4,_⟩
   .left;simp [cS.frz,af.get]
   .exact absurd (by simp [cS.frz,af.get,AV.lt,AV.ltL]) h4
  .rcases h4 with ⟨_,rfl⟩ | ⟨h4,_⟩
   .right;exact ⟨N,E,h5,h6,by simp [cS.frz,af.gc,AV.frz,AV.frzL,b8,aD.frz]⟩
   .exact absurd (by simp [cS.frz,af.gc,AV.frz,AV.frzL,b8,aD.frz,AV.lt,AV.ltL]) h4
theorem Ht {m:bl} {c:List Int} {n:Nd} (hE:gF m c) (hB:uM 20 n):(kp m c n).length<=48009701377:=by
 unfold kp;split
 .rename_i hP;have hK:=H9 hE hB.z.at_ hP;have h1:=mP (dy m c n m.events.length);have h2:=kM hE hK m.events.length (Vh _);have h3:=VE 8001616896 hE.ck.chk.events;rw [Vk];split
  .simp only [Wq];omega
  .simp only [Vz];omega
 .exact Vd _
theorem Gg (vals c:List Int) (h:vals.length+c.length<=20):nk 20 (oQ vals c 0) /\ ∀ r,nk 20 (oQ vals c r):=by
 have key:∀ r,nk 20 (oQ vals c r):=fun r=>by
  have hl:=fB (vals ++ c);rw [Vk] at hl;refine ⟨by simp [oQ,E7,jh];omega,by simp [oQ,iW,jh];omega,fun x hx=>?_⟩;obtain ⟨n,_,rfl⟩:=Vx.1 hx;exact pM _ _ _
 exact ⟨key 0,key⟩
theorem NR {m:bl} {c:List Int} (hE:gF m c):uM 20 (qK m c (eT m)):=by
 obtain ⟨e1,e2,e3⟩:=zM m;have h1:=hE.ck.chk;have h2:=hE.clen;have h3:=h1.attrs;have h4:=h1.inits;have h5:=h1.events;have h31:=tn m (-1) (m.order.take m.order.length) (lc m) (by simp [lc,cR])
 have hd:(eT m).did=List.replicate m.events.length 0:=by
  have h:=qg m (-1) (m.order.take m.order.length) (lc m);unfold eT l5;rw [h.2.1];rfl
 refine ⟨(Gg (eT m).vals c (by rw [e1];omega)).2 _,by show (eT m).did.length<=10;omega,by show (eT m).cnt.length<=10;omega,dp h31.1,dp h31.2,fun x hx=>?_⟩;have hx2:x ∈ (eT m).did:=hx;rw [hd] at hx2;rw [(List.mem_replicate.1 hx2).2];simp [aF]
theorem FW (m:bl) (c:List Int) (most:Nat) (hE:gF m c) (hi:∀ x ∈ m.inits,aF x) (hmost:most<=1000):dQ Tryz.prog 19 [.agg (aQ m),sI c,eI (most:Int)] (Js m c most):=by
 refine Rq ?_;refine bj ag Tryz.func19 rfl (by decide) Tryz.ntmps19 Tryz.results19 rfl ?_;have hc9:=hE.clen;obtain ⟨hgl,hml,hsl,hel,hal,hul,hrl,hsol,hol,hil⟩:=id hE.fit.sizes
 have hm:∀ e ∈ m.events,e.times<=10 /\ e.sets.length<=10:=fun x hx=>by
  obtain ⟨i,hi,rfl⟩:=VD hx;have h1:=(hE.ck.writes.each i hi).2.1;have h2:=pu hE.ck hi;exact ⟨by omega,by omega⟩
 have hBg:=yb m c hE.fit hE.stg hi hm (by omega) hE.cok;have hBB:=NR hE;obtain ⟨n0,hn0⟩:∃ n0,n0=qK m c (eT m):=⟨_,rfl⟩;have hX0:uO m c [n0] [] 0:=⟨by rw [hn0];rfl,rfl,Vd _,by simp,fun n hn=>by simp only [VH] at hn;rw [hn,hn0];exact hBB,fun i h h2=>absurd h2 (by simp)⟩;have e0:([n0]:List Nd).map iQ=[iQ n0]:=rfl;rw [<- hn0] at hBg
 repeat' first|refine gq ?_|decide|refine sp ?_ ?_<;>intro _|refine cA hBg ?_|fail
 refine ⟨rfl,?_⟩
 refine ae (fun st=>∃ (k:Nat) (N:List Nd) (E:List (List nT)),(uO m c N E k /\ (N.length<=most \/ (k=0 /\ N.length=1))) /\ st=⟨96,[(1,sI c),(2,eI (most:Int)),(3,.op 0 0 0),(6,.op 1 0 0),(8,.op 2 0 0),(9,eI (k:Int))],[(0,some (.box 32 (aQ m))),(1,some (.box 40 [.c (.slice none 0 0),.c (.slice none 0 0)])),(2,some (.box 40 [.osl 3,.osl 4])),(3,some (.row 93 6 (N.map iQ))),(4,some (.row 64 1 (ib E)))],5⟩) (fun st=>most+2 - ap st 9)
  ⟨_,((cu 3 1 64 1 (t:=40) (cells:=[.osl 2,.c (.slice none 0 0)]) (by simp [af.gc]) rfl).trans (wS [0,1,3,2,4] (kf @WB (kf @W5 (kf e0 @ib.eq_1))))),0,[n0],[],⟨hX0,.inr ⟨rfl,rfl⟩⟩,rfl⟩ ?_
 rintro _ ⟨k,N,E,⟨hX,hlen⟩,rfl⟩;have hNl:N.length<=1000:=by omega
 by_cases hlt:k<N.length
 .obtain ⟨n,hn⟩:∃ n,n=N[k]:=⟨_,rfl⟩;have hnB:=hX.bnd n (hn ▸ Vg hlt);have hrn:(N.map iQ)[k]?.getD []=iQ n:=by rw [hn];simp [hlt]
  have hNx:=Iy m c n hE hnB;have hLl:=Ht hE hnB;have hLB:=Nm hE hnB;obtain ⟨L,hL⟩:∃ L,L=kp m c n:=⟨_,rfl⟩;rw [<- hL] at hNx hLl hLB;have hkm:k<=most+1:=by omega
  repeat' first|refine ge (kf @hlt @hrn) ?_|decide|refine sp ?_ ?_<;>intro _
  refine ay [] [0,1,2,3,4,5,6] (.exec 7 (.exec 8 .done)) (by kernel_rfl) (by simp [af.gc]) ?_
  repeat' first|refine gf (kf @hlt @hrn) ?_|decide|refine sp ?_ ?_<;>intro _|refine cA hNx ?_|fail
  have hXi0:O0 m c N N L [] 0:=⟨XN,Vh _,hX.nd,hX.bnd,⟨rfl,fun j h _=>absurd h (by simp)⟩⟩
  refine ae (fun st=>∃ (i:Nat) (M:List Nd) (r:List nT),(i<=L.length /\ O0 m c N M L r i) /\ st=⟨96,[(1,sI c),(2,eI (most:Int)),(3,.op 0 0 0),(6,.op 1 0 0),(8,.op 2 0 0),(9,eI (k:Int)),(10,.sl 8 (L.map uC)),(11,.osl 5),(12,eI (i:Int))],[(0,some (.box 32 (aQ m))),(1,some (.box 40 [.c (.slice none 0 0),.c (.slice none 0 0)])),(2,some (.box 40 [.osl 3,.osl 4])),(3,some (.row 93 6 (M.map iQ))),(4,some (.row 64 1 (ib E))),(5,some (.row 63 3 (r.map HG)))],6⟩) (fun st=>L.length - ap st 12)
   ⟨_,((be 11 63 3 (by simp only [iz,aj.get,bb,aj.put,↓reduceIte,reduceCtorEq,Nat.reduceLT,Nat.reduceEqDiff,Nat.reduceAdd,Nat.reduceLeDiff,eq_self,implies_true,VL])).trans (wS [0,1,2,3,4,5] trivial)),0,N,[],⟨Vd _,hXi0⟩,rfl⟩ ?_
  rintro _ ⟨i,M,r,⟨hil2,hXi⟩,rfl⟩;have hMl:=hXi.len
  have hrl2:r.length<=48009701377:=by
   have:=hXi.edg.1;rw [Vr] at this;omega
  by_cases hli:i<L.length
  .obtain ⟨y,hy⟩:∃ y,y=L[i]:=⟨_,rfl⟩;have hry:(L.map uC)[i]?.getD []=uC y:=by rw [hy];simp [hli]
   have q2:List.drop 2 (uC y)=iQ y.nd:=rfl;have hyB:=hLB y (hy ▸ Vg hli);have hF:=KE M y.nd (by omega) (N:=20) (by omega) hXi.bnd;by_cases hmem:y.nd ∈ M
   .have hfi:wB M y.nd=(M.idxOf y.nd:Int):=Vo hmem;have hge:decide ((M.idxOf y.nd:Int)<0)=false:=Vv (by omega);have hidx:=Xi hmem;have hget:M[M.idxOf y.nd]? = some y.nd:=(by rw [p0 hidx,List.getElem_idxOf]);rw [hfi] at hF;obtain ⟨q,hq⟩:∃ q,q=M.idxOf y.nd:=⟨_,rfl⟩;rw [<- hq] at hF hge hget;have hXn:O0 m c N M L (r ++ [⟨y.ev,y.us,(q:Int)⟩]) (i+1):=⟨hXi.pre,by omega,hXi.nd,hXi.bnd,hXi.edg.snoc hli (by rw [<- hy];exact ⟨rfl,rfl,by simp,by simpa using hget⟩)⟩;have et:(r ++ [(⟨y.ev,y.us,(q:Int)⟩:nT)]).map HG=r.map HG ++ [[eI y.ev,eI y.us,eI (q:Int)]]:=(by simp)
    repeat' first|refine ge (kf @hli @hry) ?_|decide|refine sp ?_ ?_<;>intro _
    refine ay [] [0,1,2,3,4,5,6] (.exec 7 (.exec 8 .done)) (by kernel_rfl) (by simp [af.gc]) ?_
    repeat' first|refine ge (kf @hli (kf @hry q2)) ?_|decide|refine sp ?_ ?_<;>intro _
    refine ax hF ?_
    repeat' first|refine ge (kf @hli (kf @hry (kf q2 @hge))) ?_|decide|refine sp ?_ ?_<;>intro _
    refine ay [5] [0,1,2,3,4,5,6,7,8,9,10,11,12] (.exec 13 (.exec 14 (.exec 15 .done))) (by kernel_rfl) (by simp [af.gc]) ?_
    repeat' first|refine gf (kf @hli (kf @hry (kf q2 @hge))) ?_|decide|refine sp ?_ ?_<;>intro _|(with_reducible apply And.intro)
    all_goals first
     | rfl
     | omega
     | exact rI (wS [0,1,2,3,4,7] et) ⟨i+1,M,_,⟨by omega,hXn⟩,rfl⟩
   .have hfi:wB M y.nd = -1:=Vj hmem;have hge:decide ((-1:Int)<0)=true:=(by decide);rw [hfi] at hF
    have hXn:O0 m c N (M ++ [y.nd]) L (r ++ [⟨y.ev,y.us,(M.length:Int)⟩]) (i+1):=by
     refine ⟨hXi.pre.trans (XI _ _),by rw [Vk,Vz];omega,?_,fun n hn=>?_,(hXi.edg.mono (XI _ _)).snoc hli (by rw [<- hy];exact ⟨rfl,rfl,by simp,by simp⟩)⟩
     .rw [Xq];refine ⟨hXi.nd,by simp,fun a ha b hb=>?_⟩;simp only [VH] at hb;rw [hb];exact fun e=>hmem (e ▸ ha)
     .rcases Vs.1 hn with h1 | h1
      .exact hXi.bnd n h1
      .simp only [VH] at h1;rw [h1];exact hyB
    have et:(r ++ [(⟨y.ev,y.us,(M.length:Int)⟩:nT)]).map HG=r.map HG ++ [[eI y.ev,eI y.us,eI (M.length:Int)]]:=(by simp);have et2:(M ++ [y.nd]).map iQ=M.map iQ ++ [iQ y.nd]:=(by simp)
    repeat' first|refine ge (kf @hli @hry) ?_|decide|refine sp ?_ ?_<;>intro _
    refine ay [] [0,1,2,3,4,5,6] (.exec 7 (.exec 8 .done)) (by kernel_rfl) (by simp [af.gc]) ?_
    repeat' first|refine ge (kf @hli (kf @hry q2)) ?_|decide|refine sp ?_ ?_<;>intro _
    refine ax hF ?_
    repeat' first|refine ge (kf @hli (kf @hry (kf q2 @hge))) ?_|decide|refine sp ?_ ?_<;>intro _
    refine ay [2,3] [0,2,3,4,5,6] (.two 1 (.exec 7 (.exec 8 (.take 9 (.exec 10 .done)))) 7 (.exec 1 (.exec 8 (.take 9 (.exec 10 .done))))) (by kernel_rfl) (by simp [af.gc]) ?_
    repeat' first|refine ge (kf @hli (kf @hry (kf q2 @hge))) ?_|decide|refine sp ?_ ?_<;>intro _
    repeat' (with_reducible apply And.intro)
    all_goals first
     | rfl
     | omega
     | skip
    all_goals refine ay [5] [0,1,2,3,4,5,6,7,8,9,10,11,12] (.exec 13 (.exec 14 (.exec 15 .done))) (by kernel_rfl) (by simp [af.gc]) ?_
    all_goals
     repeat' first|refine gf (kf @hli (kf @hry (kf q2 @hge))) ?_|decide|refine sp ?_ ?_<;>intro _|(with_reducible apply And.intro)
     all_goals first
      | rfl
      | omega
      | exact rI (wS [0,1,2,7,4,9] (kf et et2)) ⟨i+1,M ++ [y.nd],_,⟨by omega,hXn⟩,rfl⟩
  .obtain rfl:i=L.length:=by omega
   have hMl2:M.length<=50000000000:=(by omega);by_cases hmo:most<M.length
   .have hmd:decide ((most:Int)<(M.length:Int))=true:=Vy (by omega)
    repeat' first|refine gf (kf @hli @hmo) ?_|decide|refine sp ?_ ?_<;>intro _
    all_goals exact ⟨_,.inl rfl,⟨fun id o h=>(by cases h),by simp [AV.lt,AV.ltL]⟩,aV (by simp [AV.ren,AV.renL])⟩
   .have hXe:uO m c M (E ++ [r]) (k+1):=by
     obtain ⟨t,ht⟩:=hXi.pre;have hMle:N.length<=M.length:=by rw [<- ht,Vk];omega
     refine ⟨?_,by rw [Vk,Vz,hX.len],by omega,hXi.nd,hXi.bnd,fun j h h2=>?_⟩
     .rw [<- ht,VO (by omega)];exact hX.first
     .have hjl:j<k+1:=by rw [Vk,Vz,hX.len] at h2;exact h2
      have hge:M[j]=N[j]'(by omega):=by
       simp only [<- ht];rw [W7 (by omega)]
      rw [hge];by_cases e:j=k
      .subst e
       have h3:(E ++ [r])[j]=r:=by
        rw [Xk (by rw [hX.len];omega)];simp [hX.len]
       rw [h3,<- hn,<- hL];have:=hXi.edg;rw [Vq] at this;exact this
      .have h3:(E ++ [r])[j]=E[j]'(by rw [hX.len];omega):=W7 _;rw [h3];exact (hX.rows j (by omega) (by rw [hX.len];omega)).mono hXi.pre
    have et:ib (E ++ [r])=ib E ++ [[.sl 3 (r.map HG)]]:=(by simp [ib]);have hEl:E.length<=1000:=by rw [hX.len];omega
    repeat' first|refine gf (kf @hli @hmo) ?_|decide|refine sp ?_ ?_<;>intro _|(with_reducible apply And.intro)
    all_goals first
     | rfl
     | omega
     | exact rI (wS [0,1,2,3,7] et) ⟨k+1,M,E ++ [r],⟨hXe,.inl (by omega)⟩,rfl⟩
 .have hkn:k=N.length:=by have:=hX.le;omega
  subst hkn;have hle:N.length<=most:=by omega
  have hd:decide ((N.length:Int)<=(most:Int))=true:=Vy (by omega)
  repeat' first|refine ge (kf @hlt @hle) ?_|decide|refine sp ?_ ?_<;>intro _
  refine ay [1] [0,1,2,3,4,5] (.exec 6 (.exec 7 .done)) (by kernel_rfl) (by simp [af.gc]) ?_
  repeat' first|refine gf (kf @hlt @hle) ?_|decide|refine sp ?_ ?_<;>intro _
  all_goals exact ⟨_,.inr ⟨N,E,hX,hle,rfl⟩,ls (by simp [cX,aD.lt,AV.ltL,AV.lt]) (by simp [AV.lt,AV.ltL]),⟨[3,4],by decide,rfl,by simp [cM,af.gc]⟩⟩
end
section
section
variable {next:List (List Int)} {at_:ah -> List Bool}
noncomputable def ct (next:List (List Int)) (at_:ah -> List Bool) (L:List df) (i:Int):List Bool:=(dm next at_ L).getD i.toNat []
theorem Gk (t:List df):∀ s:List (List Bool),s <+: t.foldl (fun sets s=>sets ++ [gv next at_ sets s]) s:=by
 induction t with
 | nil=>exact fun s=>XN
 | cons x t ih=>exact fun s=>(XI _ _).trans (ih _)
theorem pL {L L':List df} (h:L <+: L'):dm next at_ L <+: dm next at_ L':=by
 obtain ⟨t,rfl⟩:=h;unfold dm;rw [WK];exact Gk t _
theorem kR (L:List df):(dm next at_ L).length=L.length:=by
 have:=jc (next:=next) (at_:=at_) L L.length (Vh _)
 rwa [Vq] at this
theorem oC {α:Type} {a b:List α} (h:a <+: b) {i:Nat} (hi:i<a.length) (d:α):b.getD i d=a.getD i d:=by
 obtain ⟨t,rfl⟩:=h;rw [Vm,Vm,VO hi]
theorem dW {L L':List df} {i:Int} (hi:In L i) (h:L <+: L'):ct next at_ L' i=ct next at_ L i:=
 oC (pL h) (by rw [kR];have:=hi.ge;have:=hi.lt;omega) _
theorem BC {S S':List (List Bool)} {s:df} (h:S <+: S') (hs:¬(1<=s.op /\ s.op<=14) -> s.a.toNat<S.length /\ s.b.toNat<S.length):gv next at_ S' s=gv next at_ S s:=by
 unfold gv;split
 .rfl
 .rename_i hn;obtain ⟨h1,h2⟩:=hs hn;unfold fF;rw [oC h h1,oC h h2]
theorem D7 {L:List df} (hL:k9 L) {i:Nat} {s:df} (hi:L[i]? = some s):ct next at_ L (i:Int)=gv next at_ (dm next at_ L) s:=by
 obtain ⟨hlt,hs⟩:=Vf.1 hi;have h1:L.take (i+1) <+: L:=List.take_prefix _ _;have h2:L.take i <+: L:=List.take_prefix _ _;have e:dm next at_ (L.take (i+1))=dm next at_ (L.take i) ++ [gv next at_ (dm next at_ (L.take i)) s]:=by rw [lu hlt,hs]
 have hl:(dm next at_ (L.take i)).length=i:=by rw [kR,Vr];omega
 have hg:=oC (pL (next:=next) (at_:=at_) h1) (i:=i) (by rw [e,Vk,hl];simp) [];obtain ⟨⟨a0,a1⟩,⟨b0,b1⟩,c1,_⟩:=hL.lt i s hi
 rw [BC (pL h2) fun hn=>by
  have:=c1 hn;rw [hl];exact ⟨by omega,by omega⟩]
 unfold ct;rw [Wy,hg,e,Vm,VQ (by omega),hl];simp
theorem nn (a:List Bool):(a.map (!·)).map (!·)=a:=by simp [List.map_map,Function.comp_def]
theorem Tv {L:List df} {s:df} (hL:k9 L) (hm:CA L s):ct next at_ (bB L s).1 (bB L s).2=gv next at_ (dm next at_ L) s:=by
 unfold bB;split
 .rename_i h;have ha:=hm.2.2.1 (by omega);have h1:=yz hm.1.1 ha;have h2:=D7 (next:=next) (at_:=at_) hL h1;obtain ⟨t,ht⟩:∃ t,HK L s.a=t:=⟨_,rfl⟩;rw [ht] at h h1 h2 ⊢
  have e1:∀ (S:List (List Bool)) (u:df),u.op=15 -> gv next at_ S u=(S.getD u.a.toNat []).map (!·):=fun S u hu=>by
   rw [gv,Vj (by omega),fF];simp [hu]
  have e2:((s.a.toNat:Nat):Int)=s.a:=by have:=hm.1.1;omega
  rw [e1 _ t h.2,e2] at h2;rw [e1 _ s h.1];show ct next at_ L t.a=(ct next at_ L s.a).map (!·);rw [h2,nn];rfl
 .split
  .rename_i h;have h3:L[L.idxOf s]? = some s:=(by rw [p0 (Xi h),List.getElem_idxOf]);exact D7 hL h3
  .show ct next at_ (L ++ [s]) (L.length:Int)=_
   have e:dm next at_ (L ++ [s])=dm next at_ L ++ [gv next at_ (dm next at_ L) s]:=by
    unfold dm;rw [WK];rfl
   unfold ct;rw [e,Wy,Vm,VQ (by rw [kR];omega),kR];simp
variable {n:Nat} {L:List df} {a b:Int}
theorem vN (hg:ey n L) (ha:In L a):ct next at_ (bB L (dB a)).1 (bB L (dB a)).2=(ct next at_ L a).map (!·):=by
 rw [Tv hg.st (o7 ha),gv,Vj (show ¬((1:Int)<=15 /\ (15:Int)<=14) by decide),fF];rfl
theorem vX (hg:ey n L) (ha:In L a):ct next at_ (bB L (HJ a)).1 (bB L (HJ a)).2=pA next (ct next at_ L a):=by
 rw [Tv hg.st (o7 ha),gv,Vj (show ¬((1:Int)<=20 /\ (20:Int)<=14) by decide),fF];rfl
theorem vG (hg:ey n L) (ha:In L a):ct next at_ (bB L (EM a)).1 (bB L (EM a)).2=EA next (ct next at_ L a):=by
 rw [Tv hg.st (o7 ha),gv,Vj (show ¬((1:Int)<=24 /\ (24:Int)<=14) by decide),fF];rfl
theorem vA (hg:ey n L) (ha:In L a) (hb:In L b):ct next at_ (bB L (lK a b)).1 (bB L (lK a b)).2=ld (ct next at_ L a) (ct next at_ L b):=by
 rw [Tv hg.st (wd ha hb),gv,Vj (show ¬((1:Int)<=16 /\ (16:Int)<=14) by decide),fF];rfl
theorem vU (hg:ey n L) (ha:In L a) (hb:In L b):ct next at_ (bB L (u6 a b)).1 (bB L (u6 a b)).2=ux next (ct next at_ L a) (ct next at_ L b):=by
 rw [Tv hg.st (wd ha hb),gv,Vj (show ¬((1:Int)<=26 /\ (26:Int)<=14) by decide),fF];rfl
theorem vI {x:ah} (hg:ey n L) (hx:1<=x.op /\ x.op<=14):ct next at_ (bB L (tx x)).1 (bB L (tx x)).2=at_ x:=by
 rw [Tv hg.st (Kh hx),gv,Vo hx]
end
def Na (next:List (List Int)):Prop:=∀ r ∈ next,∀ x ∈ r,0<=x /\ x<(next.length:Int)
theorem gR {a:List Bool} {i:Nat} (h:i<a.length):(a.map (!·)).getD i false = !(a.getD i false):=by
 simp [List.getD,h]
theorem Ea {a:List Bool} {x:Int} (h0:0<=x) (h1:x<(a.length:Int)):rq (a.map (!·)) x = !(rq a x):=by
 unfold rq;rw [gR (by omega),Vy h0];simp
theorem Um {next:List (List Int)} {a:List Bool} (hn:Na next) (ha:a.length=next.length):(pA next (a.map (!·))).map (!·)=Gi next a:=by
 unfold pA Gi;rw [List.map_map];refine List.map_congr_left fun r hr=>?_;have h:=hn r hr;simp only [Function.comp_apply,iw,fw,<- List.not_any_eq_all_not];rw [Ws];simp only [Xr,List.any_eq_false,W6,VB,VJ,not_and];constructor
 .intro h1 x hx;obtain ⟨h2,h3⟩:=h x hx;have:=h1 x hx h3;rw [Ea h2 (by omega)] at this;simpa using this
 .intro h1 x hx h4;obtain ⟨h2,h3⟩:=h x hx;rw [Ea h2 (by omega),h1 x hx];simp
inductive QH (next:List (List Int)) (a b:List Bool):Nat -> Prop
 | here (i:Nat):b.getD i false=true -> QH next a b i
 | step (i:Nat):i<next.length -> a.getD i false=true -> (∀ x ∈ next.getD i [],0<=x) -> (∀ k:Nat,(k:Int) ∈ next.getD i [] -> QH next a b k) -> QH next a b i
theorem Uo (next:List (List Int)) (a:List Bool) {i:Nat} (hi:i<next.length):(Gi next a).getD i false=fw a (next.getD i []):=by
 simp [Gi,List.getD,hi]
theorem nG {a:List Bool} {r:List Int}:fw a r=true ↔ ∀ x ∈ r,∃ k:Nat,x=(k:Int) /\ a.getD k false=true:=by
 unfold fw rq;simp only [W6,VB,VJ];constructor
 .intro h x hx;obtain ⟨h1,h2⟩:=h x hx;exact ⟨x.toNat,by omega,h2⟩
 .intro h x hx;obtain ⟨k,rfl,h2⟩:=h x hx;exact ⟨by omega,by simpa using h2⟩
section
variable {next:List (List Int)} {a b:List Bool}
theorem qx (out:List Bool) (hl:out.length=next.length) (i:Nat):(iP next a out).getD i false=true ↔ i<next.length /\ (out.getD i false=true \/ (a.getD i false=true /\ fw out (next.getD i [])=true)):=by
 unfold iP;by_cases h:i<next.length
 .rw [Vm,Ve,V6 (by omega),VT,VG,gr,Uo _ _ h];simp [h]
 .rw [Vm,Vt (by simp;omega)];simp [h]
theorem pO (hb:b.length=next.length):∀ m i,(nI next a b m).getD i false=true -> QH next a b i
 | 0,i,h=>.here i h
 | m+1,i,h=>by
  rw [nI,qx _ (by rw [cQ,hb])] at h;obtain ⟨h1,h2|⟨h2,h3⟩⟩:=h
  .exact pO hb m i h2
  .refine .step i h1 h2 (fun x hx=>?_) fun k hx=>?_
   .obtain ⟨k,e,hk⟩:=nG.1 h3 x hx;omega
   .obtain ⟨k',e,hk⟩:=nG.1 h3 _ hx;have:k'=k:=by omega
    subst this;exact pO hb m k' hk
theorem yN (hb:b.length=next.length) (m i:Nat) (h:(nI next a b m).getD i false=true):(nI next a b (m+1)).getD i false=true:=by
 rw [nI,qx _ (by rw [cQ,hb])];refine ⟨?_,.inl h⟩;by_cases h1:i<next.length
 .exact h1
 .rw [Vm,Vt (by rw [cQ];omega)] at h;simp at h
theorem A3 (m:Nat) (h:nI next a b (m+1)=nI next a b m):∀ k,nI next a b (m+k)=nI next a b m
 | 0=>rfl
 | k+1=>by
  show iP next a (nI next a b (m+k))=_;rw [A3 m h k];exact h
theorem EL (hb:b.length=next.length):∀ m,(∃ k,k<m /\ nI next a b (k+1)=nI next a b k) \/ m<=cnt (nI next a b m)
 | 0=>.inr (Vd _)
 | m+1=>by
  rcases EL hb m with ⟨k,h1,h2⟩|h
  .exact .inl ⟨k,by omega,h2⟩
  .by_cases e:nI next a b (m+1)=nI next a b m
   .exact .inl ⟨m,by omega,e⟩
   .have:=C5 (a:=nI next a b m) (b:=nI next a b (m+1)) (by rw [cQ,cQ]) (yN hb m) (Ne.symm e);exact .inr (by omega)
theorem O6 (hb:b.length=next.length):iP next a (BA next a b)=BA next a b:=by
 rcases EL (a:=a) hb (next.length+1) with ⟨k,h1,h2⟩|h
 .have e:BA next a b=nI next a b k:=by
   have:=A3 k h2 (next.length+1 - k);rw [show k+(next.length+1 - k)=next.length+1 by omega] at this;exact this
  rw [e];exact h2
 .have:=ns (nI next a b (next.length+1));rw [cQ] at this;omega
theorem SR (hb:b.length=next.length) (i:Nat):(BA next a b).getD i false=true ↔ QH next a b i:=by
 refine ⟨pO hb _ i,fun h=>?_⟩;have hl:(BA next a b).length=next.length:=by rw [BA,cQ,hb]
 have h0:∀ m i,b.getD i false=true -> (nI next a b m).getD i false=true:=fun m=>by
  induction m with
  | zero=>exact fun i h=>h
  | succ m ih=>exact fun i h=>yN hb m i (ih i h)
 induction h with
 | here i h=>exact h0 _ i h
 | step i h1 h2 h0 h3 ih=>
  rw [<- O6 hb,qx _ hl];refine ⟨h1,.inr ⟨h2,nG.2 fun x hx=>?_⟩⟩;have:=h0 x hx;have e:x=((x.toNat:Nat):Int):=by omega
  exact ⟨x.toNat,e,ih x.toNat (e ▸ hx)⟩
end
theorem I8 {a:List Bool} {i:Nat} (h:a.getD i false=true):i<a.length:=by
 by_cases h1:i<a.length
 .exact h1
 .rw [Vm,Vt (by omega)] at h;simp at h
theorem Se {next:List (List Int)} {a b:List Bool} (hn:Na next) (ha:a.length=next.length) (hb:b.length=next.length) {i:Nat} (hi:i<next.length) :
  QH next a b i ↔ ¬ DW next (b.map (!·)) (ld (a.map (!·)) (b.map (!·))) i /\ ¬ Kz next (b.map (!·)) i:=by
 have nb:∀ i,i<next.length -> ((b.map (!·)).getD i false=true ↔ ¬ b.getD i false=true):=fun i h=>by rw [gR (by omega)];simp
 have na:∀ i,i<next.length -> ((a.map (!·)).getD i false=true ↔ ¬ a.getD i false=true):=fun i h=>by rw [gR (by omega)];simp
 constructor
 .intro h
  induction h with
  | here i h=>
   have hi:=I8 h;refine ⟨fun hE=>?_,fun hE=>?_⟩
   .cases hE with
    | here i h1 h2=>
     rw [ia,VB] at h2;exact (nb i h1).1 h2.2 h
    | step i k h1 h2 h3 h4=>exact (nb i h1).1 h2 h
   .obtain ⟨S,hS,hs⟩:=hE;obtain ⟨h1,h2,_⟩:=hs i hS;exact (nb i h1).1 h2 h
  | step i h1 h2 h0 h3 ih=>
   have hk:∀ k,n4 next i k -> ¬ DW next (b.map (!·)) (ld (a.map (!·)) (b.map (!·))) k /\ ¬ Kz next (b.map (!·)) k:=fun k he=>ih k he.1 he.2;refine ⟨fun hE=>?_,fun hE=>?_⟩
   .cases hE with
    | here i g1 g2=>
     rw [ia,VB] at g2;exact (na i h1).1 g2.1 h2
    | step i k g1 g2 g3 g4=>exact (hk k g3).1 g4
   .obtain ⟨S,hS,hs⟩:=hE;obtain ⟨_,_,k,g3,g4⟩:=hs i hS;exact (hk k g3).2 ⟨S,g4,hs⟩
 .rintro ⟨h1,h2⟩;refine Classical.byContradiction fun hA=>h2 ⟨fun j=>j<next.length /\ ¬ QH next a b j /\ ¬ DW next (b.map (!·)) (ld (a.map (!·)) (b.map (!·))) j,⟨hi,hA,h1⟩,fun j ⟨j1,j2,j3⟩=>?_⟩;have jb:(b.map (!·)).getD j false=true:=(nb j j1).2 fun h=>j2 (.here j h);have ja:a.getD j false=true:=Classical.byContradiction fun h=>j3 (.here j j1 (by rw [ia,(na j j1).2 h,jb];rfl));have hr:next.getD j [] ∈ next:=by rw [Vm,p0 j1];exact Vg j1
  refine ⟨j1,jb,Classical.byContradiction fun hk=>j2 (.step j j1 ja (fun x hx=>(hn _ hr x hx).1) fun k hx=>?_)⟩;have x1:=(hn _ hr _ hx).2;have he:n4 next j k:=⟨hx,by omega⟩;exact Classical.byContradiction fun hx2=>hk ⟨k,he,he.2,hx2,fun hE=>j3 (.step j k j1 jb he hE)⟩
theorem fu (a b:List Bool):(ld a b).length=max a.length b.length:=by simp [ld]
theorem I7 {next:List (List Int)} {a b:List Bool} (hn:Na next) (ha:a.length=next.length) (hb:b.length=next.length) :
  ld ((ux next (b.map (!·)) (ld (a.map (!·)) (b.map (!·)))).map (!·)) ((EA next (b.map (!·))).map (!·))=BA next a b:=by
 refine iy (by rw [fu,Vp,Vp,cF,dl,BA,cQ,hb];simp) fun i hi=>?_;have hi:i<next.length:=by simpa [fu,cF,dl] using hi
 rw [SR hb,Se hn ha hb hi,ia,gR (by rw [cF];exact hi),gR (by rw [dl];exact hi)];simp only [VB,Xr,<- Bool.not_eq_true,un,w9]
theorem Rw {n i:Nat} (h:i<n):(List.replicate n true).getD i false=true:=by simp [List.getD,h]
theorem S7 {next:List (List Int)} {a:List Bool} (hn:Na next) (ha:a.length=next.length):(EA next (a.map (!·))).map (!·)=BA next (List.replicate next.length true) a:=by
 have h1:=I7 hn (a:=List.replicate next.length true) (by simp) ha;rw [<- h1];refine iy (by simp [fu,cF,dl]) fun i hi=>?_;have hi:i<next.length:=by simpa [dl] using hi
 rw [ia,gR (by rw [dl];exact hi),gR (by rw [cF];exact hi)];simp only [VB,Xr,<- Bool.not_eq_true,un,w9];refine ⟨fun h=>⟨fun hE=>?_,h⟩,fun h=>h.2⟩
 induction hE with
 | here i g1 g2=>
  rw [ia,gR (by simpa using g1),Rw g1] at g2;simp at g2
 | step i k g1 g2 g3 g4 ih=>
  refine ih (by simpa [dl] using g3.2) g3.2 fun hG=>h ?_;obtain ⟨S,hS,hs⟩:=hG
  exact ⟨fun j=>j=i \/ S j,.inl rfl,fun j hj=>by
   rcases hj with rfl|hj
   .exact ⟨g1,g2,k,g3,.inr hS⟩
   .obtain ⟨q1,q2,k',q3,q4⟩:=hs j hj;exact ⟨q1,q2,k',q3,.inr q4⟩⟩
end
end
section
section
theorem M3 (n:Nat) (b:Bool) (hn:n<=1000000):aw Tryz.prog 57 [eI (n:Int),eB b] (g8 4 1 (dM (List.replicate n b))):=by
 refine aa ag Tryz.func57 rfl (by decide) Tryz.ntmps57 Tryz.results57 rfl (ch _ _ _) ?_
 repeat' first|refine go ?_|decide|refine sp ?_ ?_<;>intro _
 refine ae (fun st=>∃ k:Nat,k<=n /\ st=⟨17,[(0,eI (n:Int)),(1,eB b),(5,.osl 0),(6,eI (k:Int))],[(0,some (.row 4 1 (dM (List.replicate k b))))],1⟩) (fun st=>n - ap st 6) ⟨_,((be 5 4 1 (by simp only [iz,aj.get,bb,aj.put,↓reduceIte,reduceCtorEq,Nat.reduceLT,Nat.reduceEqDiff,Nat.reduceAdd,Nat.reduceLeDiff,eq_self,implies_true,Xe,VL])).trans (wS [0] @Xe)),0,Vd _,rfl⟩ ?_;rintro _ ⟨k,hk,rfl⟩;by_cases hlt:k<n
 .have et:dM (List.replicate (k+1) b)=dM (List.replicate k b) ++ [[eB b]]:=by rw [List.replicate_succ'];simp
  repeat' first|refine gf (kf @hlt @List.length_replicate.{0}) ?_|decide|refine sp ?_ ?_<;>intro _|(with_reducible apply And.intro)
  all_goals first
   | rfl
   | omega
   | exact rI (wS [2] et) ⟨k+1,by omega,rfl⟩
 .obtain rfl:k=n:=by omega
  repeat' first|refine gf @hlt ?_|decide|refine sp ?_ ?_<;>intro _
  exact aM (by simp [af.gc])
theorem L9 (a:List Bool) (ha:a.length<=1000000):aw Tryz.prog 53 [fI a] (g8 4 1 (dM (a.map (!·)))):=by
 refine aa ag Tryz.func53 rfl (by decide) Tryz.ntmps53 Tryz.results53 rfl (ch _ _ _) ?_
 repeat' first|refine go ?_|decide|refine sp ?_ ?_<;>intro _
 refine ae (fun st=>∃ k:Nat,k<=a.length /\ st=⟨20,[(0,fI a),(3,.osl 0),(4,eI (k:Int))],[(0,some (.row 4 1 (dM ((a.take k).map (!·)))))],1⟩) (fun st=>a.length - ap st 4) ⟨_,((be 3 4 1 (by simp only [iz,aj.get,bb,aj.put,↓reduceIte,reduceCtorEq,Nat.reduceLT,Nat.reduceEqDiff,Nat.reduceAdd,Nat.reduceLeDiff,eq_self,implies_true,Vu,VL])).trans (wS [0] @Vu)),0,Vd _,rfl⟩ ?_;rintro _ ⟨k,hk,rfl⟩;by_cases hlt:k<a.length
 .obtain ⟨x,hx⟩:∃ x,x=a[k]:=⟨_,rfl⟩;have hrow:(a.map fun b=>[eB b])[k]?.getD []=[eB x]:=by rw [hx];simp [hlt]
  have et:dM ((a.take (k+1)).map (!·))=dM ((a.take k).map (!·)) ++ [[eB (!x)]]:=by rw [Vi hlt,<- hx];simp
  have htl:(a.take k).length<=1000000:=by rw [Vr];omega
  repeat' first|refine gf (kf @hrow @hlt) ?_|decide|refine sp ?_ ?_<;>intro _|(with_reducible apply And.intro)
  all_goals first
   | rfl
   | omega
   | exact rI (wS [2] et) ⟨k+1,by omega,rfl⟩
 .obtain rfl:k=a.length:=by omega
  repeat' first|refine gf (kf @hlt @Vq) ?_|decide|refine sp ?_ ?_<;>intro _
  exact aM (by simp [af.gc])
def vD (op:Int) (x y:Bool):Bool:=if op=18 then !x || y else if op=17 then x || y else x && y
theorem Hj (op:Int) {a b:List Bool} {k:Nat} (h1:k<a.length) (h2:k<b.length):(iH op a b).take (k+1)=(iH op a b).take k ++ [vD op (a.getD k false) (b.getD k false)]:=by
 have h3:k<(iH op a b).length:=by simp [iH];omega
 rw [Vi h3];simp [iH,vD]
theorem Oz (op:Int) (a b:List Bool) (ha:a.length<=1000000) (hb:b.length<=1000000):aw Tryz.prog 60 [eI op,fI a,fI b] (g8 4 1 (dM (iH op a b))):=by
 refine aa ag Tryz.func60 rfl (by decide) Tryz.ntmps60 Tryz.results60 rfl (ch _ _ _) ?_;have hpl:(iH op a b).length=min a.length b.length:=by simp [iH]
 repeat' first|refine go ?_|decide|refine sp ?_ ?_<;>intro _
 refine ae (fun st=>∃ k:Nat,(k<=a.length /\ k<=b.length) /\ st=⟨62,[(0,eI op),(1,fI a),(2,fI b),(7,.osl 0),(8,eI (k:Int))],[(0,some (.row 4 1 (dM ((iH op a b).take k))))],1⟩) (fun st=>a.length - ap st 8) ⟨_,((be 7 4 1 (by simp only [iz,aj.get,bb,aj.put,↓reduceIte,reduceCtorEq,Nat.reduceLT,Nat.reduceEqDiff,Nat.reduceAdd,Nat.reduceLeDiff,eq_self,implies_true,Vu,VL])).trans (wS [0] @Vu)),0,⟨Vd _,Vd _⟩,rfl⟩ ?_;rintro _ ⟨k,⟨hk,hk2⟩,rfl⟩;by_cases hlt:k<a.length
 .by_cases hlt2:k<b.length
  .obtain ⟨x,hx⟩:∃ x,x=a[k]:=⟨_,rfl⟩;obtain ⟨y,hy⟩:∃ y,y=b[k]:=⟨_,rfl⟩;have hra:(a.map fun b=>[eB b])[k]?.getD []=[eB x]:=by rw [hx];simp [hlt]
   have hrb:(b.map fun b=>[eB b])[k]?.getD []=[eB y]:=by rw [hy];simp [hlt2]
   have ga:a.getD k false=x:=by rw [hx];simp [List.getD,hlt]
   have gb:b.getD k false=y:=by rw [hy];simp [List.getD,hlt2]
   have et:dM ((iH op a b).take (k+1))=dM ((iH op a b).take k) ++ [[eB (vD op x y)]]:=by rw [Hj op hlt hlt2,ga,gb];simp
   have htl:((iH op a b).take k).length<=1000000:=by rw [Vr];omega
   obtain ⟨T,hT⟩:∃ T,T=(iH op a b).take k:=⟨_,rfl⟩;rw [<- hT] at et htl ⊢;by_cases h7:op=17
   .subst h7;have d1:((17:Int) == 17)=true:=rfl;have d2:((17:Int) == 18)=false:=rfl;cases x<;>cases y<;>simp only [vD] at et
    all_goals
     repeat' first|refine gf (kf @hra (kf @hrb (kf @hlt (kf @hlt2 (kf d1 d2))))) ?_|decide|refine sp ?_ ?_<;>intro _|(with_reducible apply And.intro)
     all_goals first
      | rfl
      | omega
      | exact rI (wS [2] (kf et hT)) ⟨k+1,⟨by omega,by omega⟩,rfl⟩
   .have d1:(op == 17)=false:=(by simpa using h7);by_cases h8:op=18
    .subst h8;have d2:((18:Int) == 18)=true:=rfl;cases x<;>cases y<;>simp only [vD] at et
     all_goals
      repeat' first|refine gf (kf @hra (kf @hrb (kf @hlt (kf @hlt2 (kf d1 d2))))) ?_|decide|refine sp ?_ ?_<;>intro _|(with_reducible apply And.intro)
      all_goals first
       | rfl
       | omega
       | exact rI (wS [2] (kf et hT)) ⟨k+1,⟨by omega,by omega⟩,rfl⟩
    .have d2:(op == 18)=false:=(by simpa using h8);simp only [vD,h7,h8,↓reduceIte] at et;cases x<;>cases y
     all_goals
      repeat' first|refine gf (kf @hra (kf @hrb (kf @hlt (kf @hlt2 (kf d1 d2))))) ?_|decide|refine sp ?_ ?_<;>intro _|(with_reducible apply And.intro)
      all_goals first
       | rfl
       | omega
       | exact rI (wS [2] (kf et hT)) ⟨k+1,⟨by omega,by omega⟩,rfl⟩
  .have e:k=min a.length b.length:=(by omega);have ht:(iH op a b).take k=iH op a b:=VF (by omega);have e2:k=b.length:=(by omega);rw [ht]
   repeat' first|refine gf (kf @hlt @hlt2) ?_|decide|refine sp ?_ ?_<;>intro _
   exact aM (by simp [af.gc])
 .have ht:(iH op a b).take k=iH op a b:=VF (by omega);rw [ht]
  repeat' first|refine gf @hlt ?_|decide|refine sp ?_ ?_<;>intro _
  exact aM (by simp [af.gc])
theorem EC (next:List (List Int)) (a:List Bool) (hx:nc next) (ha:a.length<=1000000):aw Tryz.prog 54 [iL next,fI a] (g8 4 1 (dM (Gi next a))):=by
 refine aa ag Tryz.func54 rfl (by decide) Tryz.ntmps54 Tryz.results54 rfl (ch _ _ _) ?_;have hnl:=hx.len
 repeat' first|refine go ?_|decide|refine sp ?_ ?_<;>intro _
 refine ae (fun st=>∃ k:Nat,k<=next.length /\ st=⟨41,[(0,iL next),(1,fI a),(5,.osl 0),(6,eI (k:Int))],[(0,some (.row 4 1 (dM ((next.take k).map (fw a)))))],1⟩) (fun st=>next.length - ap st 6) ⟨_,((be 5 4 1 (by simp only [iz,aj.get,bb,aj.put,↓reduceIte,reduceCtorEq,Nat.reduceLT,Nat.reduceEqDiff,Nat.reduceAdd,Nat.reduceLeDiff,eq_self,implies_true,Vu,VL])).trans (wS [0] @Vu)),0,Vd _,rfl⟩ ?_;rintro _ ⟨k,hk,rfl⟩;by_cases hlt:k<next.length
 .obtain ⟨q,hq⟩:∃ q,q=next[k]:=⟨_,rfl⟩;have hrow:(n8 next)[k]?.getD []=[sI q]:=by rw [hq];simp [n8,hlt]
  have hql:q.length<=4000:=by rw [hq];exact hx.row _ (Vg hlt)
  have et:dM ((next.take (k+1)).map (fw a))=dM ((next.take k).map (fw a)) ++ [[eB (fw a q)]]:=by rw [Vi hlt,<- hq];simp
  have htl:(next.take k).length<=200:=by rw [Vr];omega
  obtain ⟨T,hT⟩:∃ T,T=(next.take k).map (fw a):=⟨_,rfl⟩;have hTl:T.length<=200:=by rw [hT,Vp];exact htl
  rw [<- hT] at et ⊢
  repeat' first|refine ge (kf @hrow @hlt) ?_|decide|refine sp ?_ ?_<;>intro _
  refine ae (fun st=>∃ j:Nat,j<=q.length /\ st=⟨41,[(0,iL next),(1,fI a),(5,.osl 0),(6,eI (k:Int)),(7,eB (fw a (q.take j))),(8,eI (j:Int))],[(0,some (.row 4 1 (dM T)))],1⟩) (fun st=>q.length - ap st 8) ⟨_,(wE (kf @Vu (kf @fw.eq_1 @List.all_nil.{0}))),0,Vd _,rfl⟩ ?_;rintro _ ⟨j,hj,rfl⟩;by_cases hlt2:j<q.length
  .obtain ⟨x,hx2⟩:∃ x,x=q[j]:=⟨_,rfl⟩;have hrj:(q.map fun n=>[eI n])[j]?.getD []=[eI x]:=by rw [hx2];simp [hlt2]
   have ea:fw a (q.take (j+1))=(fw a (q.take j) && rq a x):=by
    unfold fw;rw [Vi hlt2,List.all_append,<- hx2];simp
   have hI:=qf a x (by omega)
   cases hb:fw a (q.take j) with
   | true=>
    rw [hb,VX] at ea
    repeat' first|refine gf (kf @hrow (kf @hlt (kf @hrj @hlt2))) ?_|decide|refine sp ?_ ?_<;>intro _|refine cA hI ?_|fail
    all_goals exact rI (wE ea) ⟨j+1,by omega,rfl⟩
   | false=>
    rw [hb,VY] at ea
    repeat' first|refine gf (kf @hrow (kf @hlt (kf @hrj @hlt2))) ?_|decide|refine sp ?_ ?_<;>intro _|refine cA hI ?_|fail
    all_goals exact rI (wE ea) ⟨j+1,by omega,rfl⟩
  .obtain rfl:j=q.length:=by omega
   repeat' first|refine gf (kf @hrow (kf @hlt (kf @hlt2 @Vq))) ?_|decide|refine sp ?_ ?_<;>intro _|(with_reducible apply And.intro)
   all_goals first
    | rfl
    | omega
    | exact rI (wS [2] (kf et hT)) ⟨k+1,by omega,rfl⟩
 .obtain rfl:k=next.length:=by omega
  repeat' first|refine gf (kf @hlt @Vq) ?_|decide|refine sp ?_ ?_<;>intro _
  exact aM (by simp [af.gc,Gi])
end
section
theorem sW (op:Int) (a b:List Bool):(iH op a b).length=min a.length b.length:=by simp [iH]
theorem yq (op:Int) {a b:List Bool} {i:Nat} (h:i<a.length) (h2:i<b.length):(iH op a b).getD i false=(if op=18 then !(a.getD i false) || b.getD i false else if op=17 then a.getD i false || b.getD i false else a.getD i false && b.getD i false):=by
 have h3:i<min a.length b.length:=by omega
 unfold iH;rw [Vm,Ve,V6 h3];rfl
theorem tw {a b:List Bool} (hl:a.length=b.length) (h:∀ i,i<a.length -> a.getD i false=b.getD i false):a=b:=
 iy hl fun i hi=>by rw [h i hi]
theorem Qg {a b:List Bool} (h:a.length=b.length):(ld (a.map (!·)) (b.map (!·))).map (!·)=iH 17 a b:=by
 refine tw (by rw [sW];simp [fu,h]) fun i hi=>?_;have ha:i<a.length:=by simpa [fu,h] using hi
 have hb:i<b.length:=by omega
 rw [yq 17 ha hb,gR (by simpa [fu,h] using hb),ia,gR ha,gR hb];cases a.getD i false<;>cases b.getD i false<;>rfl
theorem Mu {a b:List Bool} (h:a.length=b.length):(ld a (b.map (!·))).map (!·)=iH 18 a b:=by
 refine tw (by rw [sW];simp [fu,h]) fun i hi=>?_;have ha:i<a.length:=by simpa [fu,h] using hi
 have hb:i<b.length:=by omega
 rw [yq 18 ha hb,gR (by simpa [fu,h] using hb),ia,gR hb];cases a.getD i false<;>cases b.getD i false<;>rfl
theorem Om {a b:List Bool} (h:a.length=b.length):ld a b=iH 16 a b:=by
 refine tw (by rw [sW];simp [fu,h]) fun i hi=>?_;have ha:i<a.length:=by simpa [fu,h] using hi
 have hb:i<b.length:=by omega
 rw [yq 16 ha hb,ia];rfl
section
variable {next:List (List Int)} {at_:ah -> List Bool} {n:Nat} {L:List df} {a b op:Int}
theorem vZ (h:aC op=1):op=15 \/ op=19 \/ op=20 \/ op=21 \/ op=22 \/ op=23 \/ op=24:=by
 unfold aC at h;split at h
 .omega
 .split at h
  .omega
  .split at h<;>omega
theorem wt (h:aC op=2):op=16 \/ op=17 \/ op=18 \/ op=25 \/ op=26:=by
 unfold aC at h;split at h
 .omega
 .split at h
  .omega
  .split at h<;>omega
theorem UZ (hn:Na next) (hT:at_ dD=List.replicate next.length true) (hg:ey n L) (ha:In L a) (hv:(ct next at_ L a).length=next.length) (hop:aC op=1) (hlim:n+8<=100000) :
  ct next at_ (jz L op a).1 (jz L op a).2=pH next op (ct next at_ L a):=by
 have m1:=mu hg ha (by omega);have v1:=vN (next:=next) (at_:=at_) hg ha;have i1:=Ps hg jq (by decide) (by omega);have w1:=vI (next:=next) (at_:=at_) hg (x:=dD) (by decide);rcases vZ hop with rfl|rfl|rfl|rfl|rfl|rfl|rfl
 .exact v1
 .have m2:=UN m1.good m1.isIn (by omega);show ct next at_ (bB _ (dB _)).1 (bB _ (dB _)).2=Gi next _;rw [vN m2.good m2.isIn,vX m1.good m1.isIn,v1,Um hn hv]
 .exact vX hg ha
 .have m2:=S1 m1.good m1.isIn (by omega);show ct next at_ (bB _ (dB _)).1 (bB _ (dB _)).2=BA next _ _;rw [vN m2.good m2.isIn,vG m1.good m1.isIn,v1,S7 hn hv]
 .show ct next at_ (bB _ (u6 _ _)).1 (bB _ (u6 _ _)).2=ux next _ _;rw [vU i1.good i1.isIn (ha.mono i1.pre),w1,hT,dW ha i1.pre]
 .have m2:=Ps m1.good jq (by decide) (by omega);have m3:=Pv m2.good m2.isIn (m1.isIn.mono m2.pre) (by omega);show ct next at_ (bB _ (dB _)).1 (bB _ (dB _)).2=(ux next _ _).map (!·);rw [vN m3.good m3.isIn,vU m2.good m2.isIn (m1.isIn.mono m2.pre),vI m1.good (by decide),hT,dW m1.isIn m2.pre,v1]
 .exact vG hg ha
theorem U1 (hn:Na next) (hg:ey n L) (ha:In L a) (hb:In L b) (hv:(ct next at_ L a).length=next.length) (hw:(ct next at_ L b).length=next.length) (hop:aC op=2) (hlim:n+8<=100000) :
  ct next at_ (jD L op a b).1 (jD L op a b).2=tW next op (ct next at_ L a) (ct next at_ L b):=by
 have e:(ct next at_ L a).length=(ct next at_ L b).length:=by omega
 rcases wt hop with rfl|rfl|rfl|rfl|rfl
 .exact (vA hg ha hb).trans (Om e)
 .have hE:jD L 17 a b=bB (bB (bB (bB L (dB a)).1 (dB b)).1 (lK (bB L (dB a)).2 (bB (bB L (dB a)).1 (dB b)).2)).1 (dB (bB (bB (bB L (dB a)).1 (dB b)).1 (lK (bB L (dB a)).2 (bB (bB L (dB a)).1 (dB b)).2)).2):=rfl;rw [hE];have m1:=mu hg ha (by omega);have v1:=vN (next:=next) (at_:=at_) hg ha;generalize bB L (dB a)=p1 at *;have b1:=hb.mono m1.pre;have w1:=dW (next:=next) (at_:=at_) hb m1.pre;have m2:=mu m1.good b1 (by omega);have v2:=vN (next:=next) (at_:=at_) m1.good b1;generalize bB p1.1 (dB b)=p2 at *;have a2:=m1.isIn.mono m2.pre;have w2:=dW (next:=next) (at_:=at_) m1.isIn m2.pre;have m3:=HC m2.good a2 m2.isIn (by omega);have v3:=vA (next:=next) (at_:=at_) m2.good a2 m2.isIn;generalize bB p2.1 (lK p1.2 p2.2)=p3 at *;rw [vN m3.good m3.isIn,v3,w2,v1,v2,w1];exact Qg e
 .have hE:jD L 18 a b=bB (bB (bB L (dB b)).1 (lK a (bB L (dB b)).2)).1 (dB (bB (bB L (dB b)).1 (lK a (bB L (dB b)).2)).2):=rfl;rw [hE];have m1:=mu hg hb (by omega);have v1:=vN (next:=next) (at_:=at_) hg hb;generalize bB L (dB b)=p1 at *;have a1:=ha.mono m1.pre;have w1:=dW (next:=next) (at_:=at_) ha m1.pre;have m2:=HC m1.good a1 m1.isIn (by omega);have v2:=vA (next:=next) (at_:=at_) m1.good a1 m1.isIn;generalize bB p1.1 (lK a p1.2)=p2 at *;rw [vN m2.good m2.isIn,v2,w1,v1];exact Mu e
 .have hE:jD L 25 a b=Bs L a b:=rfl;rw [hE];unfold Bs
  dsimp only
  have m1:=mu hg hb (by omega);have v1:=vN (next:=next) (at_:=at_) hg hb;generalize bB L (dB b)=p1 at *;have a1:=ha.mono m1.pre;have w1:=dW (next:=next) (at_:=at_) ha m1.pre;have m2:=mu m1.good a1 (by omega);have v2:=vN (next:=next) (at_:=at_) m1.good a1;generalize bB p1.1 (dB a)=p2 at *;have b2:=m1.isIn.mono m2.pre;have w2:=dW (next:=next) (at_:=at_) m1.isIn m2.pre;have m3:=HC m2.good m2.isIn b2 (by omega);have v3:=vA (next:=next) (at_:=at_) m2.good m2.isIn b2;generalize bB p2.1 (lK p2.2 p1.2)=p3 at *;have b3:=b2.mono m3.pre;have w3:=dW (next:=next) (at_:=at_) b2 m3.pre;have m4:=Pv m3.good b3 m3.isIn (by omega);have v4:=vU (next:=next) (at_:=at_) m3.good b3 m3.isIn;generalize bB p3.1 (u6 p1.2 p3.2)=p4 at *;have b4:=b3.mono m4.pre;have w4:=dW (next:=next) (at_:=at_) b3 m4.pre;have m5:=mu m4.good m4.isIn (by omega);have v5:=vN (next:=next) (at_:=at_) m4.good m4.isIn;generalize bB p4.1 (dB p4.2)=p5 at *;have b5:=b4.mono m5.pre;have w5:=dW (next:=next) (at_:=at_) b4 m5.pre;have m6:=S1 m5.good b5 (by omega);have v6:=vG (next:=next) (at_:=at_) m5.good b5;generalize bB p5.1 (EM p1.2)=p6 at *;have c6:=m5.isIn.mono m6.pre;have x6:=dW (next:=next) (at_:=at_) m5.isIn m6.pre;have m7:=mu m6.good m6.isIn (by omega);have v7:=vN (next:=next) (at_:=at_) m6.good m6.isIn;generalize bB p6.1 (dB p6.2)=p7 at *;have c7:=c6.mono m7.pre;have x7:=dW (next:=next) (at_:=at_) c6 m7.pre;rw [vA m7.good c7 m7.isIn,x7,x6,v5,v4,v7,v6,w5,w4,w3,w2,v1,v3,v2,w2,w1,v1];exact I7 hn hv hw
 .exact vU hg ha hb
theorem mV {r:List Int} (f:Int -> List Bool) (h:0<r.length):fG (r.map f)=f (gG r):=by
 have e:=kz h;rw [e,VI];simp [fG,gG]
theorem DE {r:List Int} (f:Int -> List Bool):(r.map f).dropLast=r.dropLast.map f:=by
 rw [WZ,WZ,List.map_take,Vp]
theorem wi (hn:Na next) (hT:at_ dD=List.replicate next.length true) {l:List ah} {e:Nat} (h:bx (l.map ah.op) 0=some e) (hx:∀ x ∈ l,x.ok) (hl:l.length<=64) (hat:∀ x ∈ l,aC x.op=0 -> (at_ x).length=next.length) :
  ∀ k,k<=l.length -> (gg (l.take k)).2.map (ct next at_ (gg (l.take k)).1)=dq next at_ (l.take k)
 | 0,_=>by simp [gg,dq]
 | k+1,hk=>by
  have ih:=wi hn hT h hx hl hat k (by omega);obtain ⟨h1,h2⟩:=mN h hx hl k (by omega);obtain ⟨hrl,_⟩:=oS h hat k (by omega);obtain ⟨d,h3,d',h4,h5⟩:=mA h (show k<l.length by omega);rw [h2] at h3;cases h3;rw [pU (by omega),mC (by omega),<- ih];rw [<- ih] at hrl;generalize gg (l.take k)=p at *;obtain ⟨L,r⟩:=p;have hg:=h1.good;have hr:=h1.row;simp only at hg hr hrl h4 ⊢;have keep:∀ (P:Mk) (m:Nat) (q:List Int),km m L P -> (∀ i ∈ q,i ∈ r) -> q.map (ct next at_ P.1)=q.map (ct next at_ L):=fun P m q hm hq=>List.map_congr_left fun i hi=>dW (hr i (hq i hi)) hm.pre;unfold ly iX;rcases mY h4 with ⟨e1,_⟩|⟨e1,e2,_⟩|⟨e1,e2,_⟩
  .have hop:=Dh e1;have m:=Ps hg (hx _ (Vg _)) hop (by omega);rw [Vj (by omega),Vj (by omega),Vj (by omega),Vj (by omega)];simp only [VI,V1,VL];rw [keep _ _ r m fun i hi=>hi,vI hg hop]
  .have hm:=jf e2;have m:=Pr (op:=l[k].op) hg (hr _ hm.1) (by omega);rw [Vo e1,Vo e1];simp only [VI,V1,VL];rw [keep _ _ _ m hm.2,mV _ e2,DE,UZ hn hT hg (hr _ hm.1) (hrl _ (List.mem_map_of_mem hm.1)) e1 (by omega)]
  .have hm:=jf (show 0<r.length by omega);have hm2:=jf (r:=r.dropLast) (by simp;omega);have m:=Pn (op:=l[k].op) hg (hr _ (hm.2 _ hm2.1)) (hr _ hm.1) (by omega);rw [Vj (by omega),Vo e1,Vj (by omega),Vo e1];simp only [VI,V1,VL]
   rw [keep _ _ _ m fun i hi=>hm.2 i (hm2.2 i hi),DE,mV _ (by simp;omega),mV _ (by omega),DE,
    U1 hn hg (hr _ (hm.2 _ hm2.1)) (hr _ hm.1) (hrl _ (List.mem_map_of_mem (hm.2 _ hm2.1))) (hrl _ (List.mem_map_of_mem hm.1)) e1 (by omega)]
theorem GS (hn:Na next) (hT:at_ dD=List.replicate next.length true) {l:List ah} (h:bx (l.map ah.op) 0=some 1) (hx:∀ x ∈ l,x.ok) (hl:l.length<=64) (hat:∀ x ∈ l,aC x.op=0 -> (at_ x).length=next.length):gu next at_ l=uF next at_ l:=by
 have h1:=wi hn hT h hx hl hat l.length (Vh _);obtain ⟨_,h2⟩:=mN h hx hl l.length (Vh _);rw [Vq] at h1 h2;rw [h] at h2;have h3:0<(gg l).2.length:=by have:=WD h2;omega
 unfold gu uF;rw [<- h1,mV _ h3];rfl
end
end
end
section
section
theorem Ex (next:List (List Int)) (a b:List Bool) (hx:nc next) (ha:a.length<=1000000) (hb:b.length=next.length):aw Tryz.prog 56 [iL next,fI a,fI b] (g8 4 1 (dM (BA next a b))):=by
 refine aa ag Tryz.func56 rfl (by decide) Tryz.ntmps56 Tryz.results56 rfl (ch _ _ _) ?_;have hnl:=hx.len
 repeat' first|refine go ?_|decide|refine sp ?_ ?_<;>intro _
 refine ⟨rfl,by omega,?_⟩;refine ae (fun st=>∃ k:Nat,k<=next.length+1 /\ st=⟨54,[(0,iL next),(1,fI a),(7,.osl 0),(8,eI (k:Int))],[(0,some (.row 4 1 (dM (nI next a b k))))],1⟩) (fun st=>next.length+1 - ap st 8) ⟨_,(wS [1] (kf @nI.eq_1 @nI.eq_2)),0,Vd _,rfl⟩ ?_;rintro _ ⟨k,hk,rfl⟩;have hol:(nI next a b k).length=next.length:=by rw [cQ,hb]
 by_cases hlt:k<=next.length
 .have hlt2:decide ((k:Int)<=(next.length:Int))=true:=Vy (by omega);have hs:nI next a b (k+1)=iP next a (nI next a b k):=rfl;obtain ⟨o,ho⟩:∃ o,o=nI next a b k:=⟨_,rfl⟩;rw [<- ho] at hs hol ⊢;have hev:=EC next o hx (by omega);have hxl:=tb next o;have hnl2:(iP next a o).length=o.length:=by simp [iP]
  have hnx:∀ j,j<o.length -> (iP next a o).getD j false=(o.getD j false || (rq a (j:Int) && (Gi next o).getD j false)):=fun j hj=>by
   unfold iP;rw [Vm,Ve,V6 hj];rfl
  obtain ⟨X,hX⟩:∃ X,X=Gi next o:=⟨_,rfl⟩;rw [<- hX] at hev hxl hnx;obtain ⟨N,hN⟩:∃ N,N=iP next a o:=⟨_,rfl⟩;rw [<- hN] at hs hnl2 hnx
  repeat' first|refine ge (kf @hlt @hlt2) ?_|decide|refine sp ?_ ?_<;>intro _
  refine cd hev (.inr (aP _)) ?_
  repeat' first|refine go ?_|decide|refine sp ?_ ?_<;>intro _
  refine ae (fun st=>∃ j:Nat,j<=o.length /\ st=⟨54,[(0,iL next),(1,fI a),(7,.osl 0),(8,eI (k:Int)),(9,.osl 1),(10,eI (j:Int))],[(0,some (.row 4 1 (dM (bW N o j)))),(1,some (.row 4 1 (dM X)))],2⟩) (fun st=>o.length - ap st 10) ⟨_,(wE (kf @bW.eq_1 (kf @Vu @Xy))),0,Vd _,rfl⟩ ?_;rintro _ ⟨j,hj,rfl⟩;have hul:=gy hnl2 hj;by_cases hlt3:j<o.length
  .have d1:decide ((j:Int)<((bW N o j).length:Int))=true:=Vy (by omega);have d2:decide ((j:Int)<(X.length:Int))=true:=Vy (by omega);have d3:j<(bW N o j).length:=(by omega);have d4:j<X.length:=(by omega);have r1:=lq hnl2 hlt3;have r2:(dM X)[j]?.getD []=[eB (X.getD j false)]:=(by simp [List.getD,d4]);have hset:=jn hnl2 hlt3;have hI:=qf a (j:Int) (by omega);rw [hnx j hlt3] at hset;obtain ⟨v,hv⟩:∃ v,v=X.getD j false:=⟨_,rfl⟩;obtain ⟨u,hu⟩:∃ u,u=o.getD j false:=⟨_,rfl⟩;obtain ⟨t,ht⟩:∃ t,t=rq a (j:Int):=⟨_,rfl⟩;rw [<- hv] at r2 hset;rw [<- hu] at r1 hset;rw [<- ht] at hI hset;cases u<;>cases t<;>simp only [Bool.true_or,Xv,VX,VY] at hset
   all_goals
    repeat' first|refine gf (kf d1 (kf d2 (kf d3 (kf d4 (kf r1 (kf r2 @hset)))))) ?_|decide|refine sp ?_ ?_<;>intro _|refine cA hI ?_|fail
    all_goals exact rI (wE @hset) ⟨j+1,by omega,rfl⟩
  .obtain rfl:j=o.length:=by omega
   have d1:decide ((o.length:Int)<((bW N o o.length).length:Int))=false:=Vv (by omega);have e1:bW N o o.length=N:=(by simp [bW,VF (Nat.le_of_eq hnl2)]);have d2:¬ o.length<N.length:=(by omega);rw [e1] at d1 ⊢
   repeat' first|refine gf (kf d1 d2) ?_|decide|refine sp ?_ ?_<;>intro _
   all_goals exact rI (wE hs) ⟨k+1,by omega,rfl⟩
 .obtain rfl:k=next.length+1:=by omega
  have hlt2:decide (((next.length+1:Nat):Int)<=(next.length:Int))=false:=Vv (by omega);have hlt3:¬ next.length+1<=next.length:=by omega
  repeat' first|refine ge (kf @hlt2 @hlt3) ?_|decide|refine sp ?_ ?_<;>intro _
  all_goals exact aM (by simp [af.gc,BA])
theorem lz {e:TypeId} {sz:Nat} {rows:List (List AV)} {st:aj} {id:Nat} (hg:st.tab.get id=some (.row e sz rows)):∃ R,yl e sz rows R /\ R.Ok /\ d9 R st (.osl id):=tt hg (.inl rfl)
theorem TI {e:TypeId} {sz:Nat} {rows:List (List AV)} {st:aj}:∃ R,yl e sz rows R /\ R.Ok /\ d9 R st (.sl sz rows):=
 ⟨_,.inr rfl,⟨fun id o h=>(by cases h),trivial⟩,aV (by simp [AV.ren])⟩
theorem nP (s:Rm) (a:List Bool):fG (s ++ [a])=a:=by simp [fG]
theorem uK {α:Type} (s:List α):s.dropLast=s.take (s.length - 1):=WZ
theorem k0:(((0:Nat):Int) == 0)=true:=rfl
theorem k1:(((1:Nat):Int) == 0)=false:=rfl
theorem k2:(((2:Nat):Int) == 0)=false:=rfl
theorem t0:Int.toNat 0=0:=rfl
theorem t1:Int.toNat 1=1:=rfl
theorem jS:(0:Int)<((1:Nat):Int):=by decide
theorem kC:(0:Int)<((2:Nat):Int):=by decide
theorem ke:(1:Int)<((2:Nat):Int):=by decide
theorem Lg (l:List ah) (next:List (List Int)) (at_:ah -> List Bool) (e:Nat) (hx:nc next) (hrow:bx (l.map ah.op) 0=some e) (hat:∀ x ∈ l,aC x.op=0 -> (at_ x).length=next.length) (hl:l.length<=64) :
  ∀ (n q:Nat),q<n -> q<l.length -> aw Tryz.prog 25 [.sl 9 ((l.map ah.op).map uV),eI (q:Int),iL next,.sl 1 (jL (l.map at_))] ⟨fI (fG (dq next at_ (l.take (q+1)))),[],0⟩
 | 0,q,h,_=>absurd h (by omega)
 | n+1,q,hn,hq=>by
  refine oq 4 ?_;refine bj ag Tryz.func25 rfl (by decide) Tryz.ntmps25 Tryz.results25 rfl ?_;have hnl:=hx.len;have ih:=Lg l next at_ e hx hrow hat hl n;have hol:(l.map ah.op).length=l.length:=Vp _;have hK:=Tb (l.map ah.op) q (by omega) (by omega);obtain ⟨g1,g2⟩:=oS hrow hat q (by omega);obtain ⟨d,h3,d',h4,h5⟩:=mA hrow hq;rw [g2] at h3;cases h3;rw [mC hq];obtain ⟨x,hx2⟩:∃ x,x=l[q]:=⟨_,rfl⟩;have hg:(l.map ah.op).getD q 0=x.op:=by rw [hx2];simp [List.getD,hq]
  have hri:((l.map ah.op).map uV)[q]?.getD []=uV x.op:=by rw [hx2];simp [hq]
  have hrs:(jL (l.map at_))[q]?.getD []=[fI (at_ x)]:=by rw [hx2];simp [jL,hq]
  rw [<- hx2] at h4 ⊢;unfold IL at hK;rw [hg] at hK
  have hsl:(dq next at_ (l.take q)).length<=64:=by
   have:=sb _ _ _ g2;simp at this;omega
  have hC:=M3 next.length true (by omega);rcases mY h4 with ⟨e1,_⟩|⟨e1,e2,_⟩|⟨e1,e2,_⟩
  .rw [Vo e1] at hK;have hs:iX next at_ (dq next at_ (l.take q)) x=dq next at_ (l.take q) ++ [at_ x]:=(by rw [iX,Vj (by omega),Vj (by omega)]);rw [hs,nP]
   repeat' first|refine gf (kf @hrs (kf hq k0)) ?_|decide|refine sp ?_ ?_<;>intro _|refine cA hK ?_|fail
   all_goals exact TI
  .rw [Vj (by omega),Vo e1] at hK
   have hq1:1<=q:=by
    by_cases h0:q=0
    .subst h0;simp [dq] at e2
    .omega
   have hs:iX next at_ (dq next at_ (l.take q)) x=(dq next at_ (l.take q)).dropLast ++ [pH next x.op (fG (dq next at_ (l.take q)))]:=(by rw [iX,Vo e1]);rw [hs,nP];have hA:=ih (q - 1) (by omega) (by omega);rw [show q - 1+1=q by omega,show ((q - 1:Nat):Int)=(q:Int) - 1 by omega] at hA;have hal:=g1 _ (gO e2);obtain ⟨a,ha⟩:∃ a,a=fG (dq next at_ (l.take q)):=⟨_,rfl⟩;rw [<- ha] at hA hal ⊢;have hN:=L9 a (by omega);have hE:=EC next a hx (by omega);have hX:=KH next a hx (by omega);have hG:=TY next a hx (by omega);have hT:(List.replicate next.length true).length=next.length:=(by simp);have hU:=LS next (List.replicate next.length true) a hx (by omega) (by omega);have hL:=Ex next (List.replicate next.length true) a hx (by omega) hal;have hU2:=LS next (List.replicate next.length true) (a.map (!·)) hx (by omega) (by rw [Vp];omega);have hN2:=L9 (ux next (List.replicate next.length true) (a.map (!·))) (by rw [cF];omega);clear ih;rcases vZ e1 with ho|ho|ho|ho|ho|ho|ho;all_goals rw [ho] at hri ⊢
   .repeat' first|refine go ?_|simp only [hri,hq,Int.reduceBEq,k1,t0,jS]|decide|refine sp ?_ ?_<;>intro _
    refine bJ hK (ro) ?_
    repeat' first|refine go ?_|simp only [hri,hq,Int.reduceBEq,k1,t0,jS]|decide|refine sp ?_ ?_<;>intro _
    refine bJ hA (ro) ?_
    repeat' first|refine go ?_|simp only [hri,hq,Int.reduceBEq,k1,t0,jS]|decide|refine sp ?_ ?_<;>intro _
    refine cd hN (.inr (aP _)) ?_
    repeat' first|refine go ?_|decide|refine sp ?_ ?_<;>intro _
    exact lz (by simp [af.gc,pH])
   .repeat' first|refine go ?_|simp only [hri,hq,Int.reduceBEq,k1,t0,jS]|decide|refine sp ?_ ?_<;>intro _
    refine bJ hK (ro) ?_
    repeat' first|refine go ?_|simp only [hri,hq,Int.reduceBEq,k1,t0,jS]|decide|refine sp ?_ ?_<;>intro _
    refine bJ hA (ro) ?_
    repeat' first|refine go ?_|simp only [hri,hq,Int.reduceBEq,k1,t0,jS]|decide|refine sp ?_ ?_<;>intro _
    refine cd hE (.inr (aP _)) ?_
    repeat' first|refine go ?_|decide|refine sp ?_ ?_<;>intro _
    exact lz (by simp [af.gc,pH])
   .repeat' first|refine go ?_|simp only [hri,hq,Int.reduceBEq,k1,t0,jS]|decide|refine sp ?_ ?_<;>intro _
    refine bJ hK (ro) ?_
    repeat' first|refine go ?_|simp only [hri,hq,Int.reduceBEq,k1,t0,jS]|decide|refine sp ?_ ?_<;>intro _
    refine bJ hA (ro) ?_
    repeat' first|refine go ?_|simp only [hri,hq,Int.reduceBEq,k1,t0,jS]|decide|refine sp ?_ ?_<;>intro _
    refine cd hX (.inr (aP _)) ?_
    repeat' first|refine go ?_|decide|refine sp ?_ ?_<;>intro _
    exact lz (by simp [af.gc,pH])
   .repeat' first|refine go ?_|simp only [hri,hq,Int.reduceBEq,k1,t0,jS]|decide|refine sp ?_ ?_<;>intro _
    refine bJ hK (ro) ?_
    repeat' first|refine go ?_|simp only [hri,hq,Int.reduceBEq,k1,t0,jS]|decide|refine sp ?_ ?_<;>intro _
    refine bJ hA (ro) ?_
    repeat' first|refine go ?_|simp only [hri,hq,Int.reduceBEq,k1,t0,jS]|decide|refine sp ?_ ?_<;>intro _
    refine cd hC (.inr (aP _)) ?_
    repeat' first|refine go ?_|decide|refine sp ?_ ?_<;>intro _
    refine cd hL (.inr (aP _)) ?_
    repeat' first|refine go ?_|decide|refine sp ?_ ?_<;>intro _
    exact lz (by simp [af.gc,pH])
   .repeat' first|refine go ?_|simp only [hri,hq,Int.reduceBEq,k1,t0,jS]|decide|refine sp ?_ ?_<;>intro _
    refine bJ hK (ro) ?_
    repeat' first|refine go ?_|simp only [hri,hq,Int.reduceBEq,k1,t0,jS]|decide|refine sp ?_ ?_<;>intro _
    refine bJ hA (ro) ?_
    repeat' first|refine go ?_|simp only [hri,hq,Int.reduceBEq,k1,t0,jS]|decide|refine sp ?_ ?_<;>intro _
    refine cd hC (.inr (aP _)) ?_
    repeat' first|refine go ?_|decide|refine sp ?_ ?_<;>intro _
    refine cd hU (.inr (aP _)) ?_
    repeat' first|refine go ?_|decide|refine sp ?_ ?_<;>intro _
    exact lz (by simp [af.gc,pH])
   .repeat' first|refine go ?_|simp only [hri,hq,Int.reduceBEq,k1,t0,jS]|decide|refine sp ?_ ?_<;>intro _
    refine bJ hK (ro) ?_
    repeat' first|refine go ?_|simp only [hri,hq,Int.reduceBEq,k1,t0,jS]|decide|refine sp ?_ ?_<;>intro _
    refine bJ hA (ro) ?_
    repeat' first|refine go ?_|simp only [hri,hq,Int.reduceBEq,k1,t0,jS]|decide|refine sp ?_ ?_<;>intro _
    refine cd hC (.inr (aP _)) ?_
    repeat' first|refine go ?_|decide|refine sp ?_ ?_<;>intro _
    refine cd hN (.inr (aP _)) ?_
    repeat' first|refine go ?_|decide|refine sp ?_ ?_<;>intro _
    refine cd hU2 (.inr (aP _)) ?_
    repeat' first|refine go ?_|decide|refine sp ?_ ?_<;>intro _
    refine cd hN2 (.inr (aP _)) ?_
    repeat' first|refine go ?_|decide|refine sp ?_ ?_<;>intro _
    exact lz (by simp [af.gc,pH])
   .repeat' first|refine go ?_|simp only [hri,hq,Int.reduceBEq,k1,t0,jS]|decide|refine sp ?_ ?_<;>intro _
    refine bJ hK (ro) ?_
    repeat' first|refine go ?_|simp only [hri,hq,Int.reduceBEq,k1,t0,jS]|decide|refine sp ?_ ?_<;>intro _
    refine bJ hA (ro) ?_
    repeat' first|refine go ?_|simp only [hri,hq,Int.reduceBEq,k1,t0,jS]|decide|refine sp ?_ ?_<;>intro _
    refine cd hG (.inr (aP _)) ?_
    repeat' first|refine go ?_|decide|refine sp ?_ ?_<;>intro _
    exact lz (by simp [af.gc,pH])
  .rw [Vj (by omega),Vj (by omega)] at hK
   have hq1:1<=q:=by
    by_cases h0:q=0
    .subst h0;simp [dq] at e2
    .omega
   have hs:iX next at_ (dq next at_ (l.take q)) x=(dq next at_ (l.take q)).dropLast.dropLast ++ [tW next x.op (fG (dq next at_ (l.take q)).dropLast) (fG (dq next at_ (l.take q)))]:=(by rw [iX,Vj (by omega),Vo e1]);rw [hs,nP];obtain ⟨b,b1,b2,b3⟩:=tY (l.map ah.op) q 1 (dq next at_ (l.take q)).length (by omega) (Vh _) (by omega) (by rw [<- List.map_take];exact g2);obtain ⟨_,b4⟩:=rP hrow hat q 1 b (by omega) (Vh _) (by omega) b1;rw [<- uK] at b4
   have b0:1<=b:=by
    by_cases h0:b=0
    .subst h0;simp [bx] at b3;omega
    .omega
   have hA:=ih (b - 1) (by omega) (by omega);rw [show b - 1+1=b by omega,show ((b - 1:Nat):Int)=(b:Int) - 1 by omega,b4] at hA;have hB:=ih (q - 1) (by omega) (by omega);rw [show q - 1+1=q by omega,show ((q - 1:Nat):Int)=(q:Int) - 1 by omega] at hB;rw [b1] at hK;have hal:=g1 _ (uh (gO (s:=(dq next at_ (l.take q)).dropLast) (by simp;omega)));have hbl:=g1 _ (gO (by omega));obtain ⟨u,hu⟩:∃ u,u=fG (dq next at_ (l.take q)).dropLast:=⟨_,rfl⟩;obtain ⟨v,hv⟩:∃ v,v=fG (dq next at_ (l.take q)):=⟨_,rfl⟩;rw [<- hu] at hA hal ⊢;rw [<- hv] at hB hbl ⊢;have hL:=Ex next u v hx (by omega) hbl;have hU:=LS next u v hx (by omega) (by omega);have hP:=Oz x.op u v (by omega) (by omega);clear ih;rcases wt e1 with ho|ho|ho|ho|ho;all_goals rw [ho] at hri hP ⊢
   .repeat' first|refine go ?_|simp only [hri,hq,Int.reduceBEq,k2,t0,t1,kC,ke]|decide|refine sp ?_ ?_<;>intro _
    refine bJ hK (ro) ?_
    repeat' first|refine go ?_|simp only [hri,hq,Int.reduceBEq,k2,t0,t1,kC,ke]|decide|refine sp ?_ ?_<;>intro _
    refine bJ hA (ro) ?_
    repeat' first|refine go ?_|simp only [hri,hq,Int.reduceBEq,k2,t0,t1,kC,ke]|decide|refine sp ?_ ?_<;>intro _
    refine ⟨by decide,?_⟩;refine bJ hB (ro) ?_
    repeat' first|refine go ?_|simp only [hri,hq,Int.reduceBEq,k2,t0,t1,kC,ke]|decide|refine sp ?_ ?_<;>intro _
    refine cd hP (.inr (aP _)) ?_
    repeat' first|refine go ?_|decide|refine sp ?_ ?_<;>intro _
    exact lz (by simp [af.gc,tW])
   .repeat' first|refine go ?_|simp only [hri,hq,Int.reduceBEq,k2,t0,t1,kC,ke]|decide|refine sp ?_ ?_<;>intro _
    refine bJ hK (ro) ?_
    repeat' first|refine go ?_|simp only [hri,hq,Int.reduceBEq,k2,t0,t1,kC,ke]|decide|refine sp ?_ ?_<;>intro _
    refine bJ hA (ro) ?_
    repeat' first|refine go ?_|simp only [hri,hq,Int.reduceBEq,k2,t0,t1,kC,ke]|decide|refine sp ?_ ?_<;>intro _
    refine ⟨by decide,?_⟩;refine bJ hB (ro) ?_
    repeat' first|refine go ?_|simp only [hri,hq,Int.reduceBEq,k2,t0,t1,kC,ke]|decide|refine sp ?_ ?_<;>intro _
    refine cd hP (.inr (aP _)) ?_
    repeat' first|refine go ?_|decide|refine sp ?_ ?_<;>intro _
    exact lz (by simp [af.gc,tW])
   .repeat' first|refine go ?_|simp only [hri,hq,Int.reduceBEq,k2,t0,t1,kC,ke]|decide|refine sp ?_ ?_<;>intro _
    refine bJ hK (ro) ?_
    repeat' first|refine go ?_|simp only [hri,hq,Int.reduceBEq,k2,t0,t1,kC,ke]|decide|refine sp ?_ ?_<;>intro _
    refine bJ hA (ro) ?_
    repeat' first|refine go ?_|simp only [hri,hq,Int.reduceBEq,k2,t0,t1,kC,ke]|decide|refine sp ?_ ?_<;>intro _
    refine ⟨by decide,?_⟩;refine bJ hB (ro) ?_
    repeat' first|refine go ?_|simp only [hri,hq,Int.reduceBEq,k2,t0,t1,kC,ke]|decide|refine sp ?_ ?_<;>intro _
    refine cd hP (.inr (aP _)) ?_
    repeat' first|refine go ?_|decide|refine sp ?_ ?_<;>intro _
    exact lz (by simp [af.gc,tW])
   .repeat' first|refine go ?_|simp only [hri,hq,Int.reduceBEq,k2,t0,t1,kC,ke]|decide|refine sp ?_ ?_<;>intro _
    refine bJ hK (ro) ?_
    repeat' first|refine go ?_|simp only [hri,hq,Int.reduceBEq,k2,t0,t1,kC,ke]|decide|refine sp ?_ ?_<;>intro _
    refine bJ hA (ro) ?_
    repeat' first|refine go ?_|simp only [hri,hq,Int.reduceBEq,k2,t0,t1,kC,ke]|decide|refine sp ?_ ?_<;>intro _
    refine ⟨by decide,?_⟩;refine bJ hB (ro) ?_
    repeat' first|refine go ?_|simp only [hri,hq,Int.reduceBEq,k2,t0,t1,kC,ke]|decide|refine sp ?_ ?_<;>intro _
    refine cd hL (.inr (aP _)) ?_
    repeat' first|refine go ?_|decide|refine sp ?_ ?_<;>intro _
    exact lz (by simp [af.gc,tW])
   .repeat' first|refine go ?_|simp only [hri,hq,Int.reduceBEq,k2,t0,t1,kC,ke]|decide|refine sp ?_ ?_<;>intro _
    refine bJ hK (ro) ?_
    repeat' first|refine go ?_|simp only [hri,hq,Int.reduceBEq,k2,t0,t1,kC,ke]|decide|refine sp ?_ ?_<;>intro _
    refine bJ hA (ro) ?_
    repeat' first|refine go ?_|simp only [hri,hq,Int.reduceBEq,k2,t0,t1,kC,ke]|decide|refine sp ?_ ?_<;>intro _
    refine ⟨by decide,?_⟩;refine bJ hB (ro) ?_
    repeat' first|refine go ?_|simp only [hri,hq,Int.reduceBEq,k2,t0,t1,kC,ke]|decide|refine sp ?_ ?_<;>intro _
    refine cd hU (.inr (aP _)) ?_
    repeat' first|refine go ?_|decide|refine sp ?_ ?_<;>intro _
    exact lz (by simp [af.gc,tW])
end
end
section
section
theorem Ot (l:List ah) (hl:l.length<=70):aw Tryz.prog 13 [aX l] ⟨.sl 9 ((l.map ah.op).map uV),[],0⟩:=
 aw.still [0] (Mt l hl) (by simp [cS.frzs,cS.frz,g8,af.gc,AV.frz]) (by simp [AV.lt])
noncomputable def lJ (m:bl) (c:List Int) (nds:List Nd) (x:ah):List Bool:=nds.map fun n=>sf m c n x
noncomputable def eH (n:Nat) (es:List (List nT)) (at_:ah -> List Bool) (l:List ah):cS:=if lB (l.map ah.op)=0 /\ n=es.length then ⟨.tup [fI (uF (aU es) at_ l),eI 0],[],0⟩ else ⟨.tup [.c (.slice none 0 0),eI 17],[],0⟩
theorem uA (n:Nat) (es:List (List nT)) (at_:ah -> List Bool) (l:List ah):(eH n es at_ l).Ok:=by
 unfold eH;split
 .exact ⟨fun id o h=>(by cases h),⟨trivial,trivial,trivial⟩⟩
 .exact ⟨fun id o h=>(by cases h),⟨trivial,trivial,trivial⟩⟩
theorem vO {ops:List Int} (h:lB ops=0):bx ops 0=some 1 /\ 0<ops.length /\ ops.length<=64:=by
 unfold lB at h;split at h
 .cases h
 .split at h
  .cases h
  .split at h
   .rename_i h1 h2 h3;exact ⟨(vL ops h1 (by omega)).1 h3,by omega,by omega⟩
   .cases h
theorem Cg (m:bl) (c:List Int) (nds:List Nd) (es:List (List nT)) (l:List ah) (hl:l.length<=64) (hn:nds.length<=1000000) (he:es.length<=1000000) (hee:∀ r ∈ es,r.length<=1000000) (hnx:nds.length=es.length -> nc (aU es))
  (hat:∀ n ∈ nds,∀ x ∈ l,aw Tryz.prog 24 [.agg (aQ m),sI c,.agg (iQ n),.agg (cq x)] (val (.bool (sf m c n x)))) :
  aw Tryz.prog 9 [.agg (aQ m),sI c,.agg [.sl 6 (nds.map iQ),.sl 1 (ib es)],aX l] (eH nds.length es (lJ m c nds) l):=by
 refine aa ag Tryz.func9 rfl (by decide) Tryz.ntmps9 Tryz.results9 rfl (uA _ _ _ _) ?_;have hI:=Ot l (by omega);have hol:(l.map ah.op).length=l.length:=Vp _;have hC:=CT (l.map ah.op) (by omega);by_cases hc:lB (l.map ah.op)=0
 .rw [hc] at hC;have z:((0:Int) != 0)=false:=rfl;by_cases hne:nds.length=es.length
  .have en:((nds.length:Int) != (es.length:Int))=false:=(by simp [hne]);have hR:eH nds.length es (lJ m c nds) l=⟨.tup [fI (uF (aU es) (lJ m c nds) l),eI 0],[],0⟩:=Vo ⟨hc,hne⟩;rw [hR];obtain ⟨hrow,hl0,hl64⟩:=vO hc;have hx:=hnx hne;have hnn:(aU es).length=es.length:=(by simp [aU]);have hA:=Lg l (aU es) (lJ m c nds) 1 hx hrow (fun x _ _=>by simp [lJ,hnn,hne]) hl l.length (l.length - 1) (by omega) (by omega);rw [show l.length - 1+1=l.length by omega,Vq] at hA;have hF:uF (aU es) (lJ m c nds) l=fG (dq (aU es) (lJ m c nds) l):=rfl;rw [hF];obtain ⟨V,hV⟩:∃ V,V=fG (dq (aU es) (lJ m c nds) l):=⟨_,rfl⟩;rw [<- hV] at hA ⊢;have hes:=hx.len;rw [hnn] at hes
   repeat' first|refine gf (kf z en) ?_|decide|refine sp ?_ ?_<;>intro _|refine cA hI ?_|refine cA hC ?_|fail
   refine ae (fun st=>∃ k:Nat,k<=es.length /\ st=⟨105,[(1,sI c),(3,aX l),(4,.op 0 0 0),(6,.op 1 0 0),(10,.sl 9 ((l.map ah.op).map uV)),(11,.osl 2),(12,eI (k:Int))],[(0,some (.box 32 (aQ m))),(1,some (.box 40 [.sl 6 (nds.map iQ),.sl 1 (ib es)])),(2,some (.row 87 1 (n8 (aU (es.take k)))))],3⟩) (fun st=>es.length - ap st 12) ⟨_,((be 11 87 1 (by simp only [iz,aj.get,bb,aj.put,↓reduceIte,reduceCtorEq,Nat.reduceLT,Nat.reduceEqDiff,Nat.reduceAdd,Nat.reduceLeDiff,eq_self,implies_true,aU,n8,Vu])).trans (wS [0,1,2] (kf @aU.eq_1 (kf @n8.eq_1 @Vu)))),0,Vd _,rfl⟩ ?_;rintro _ ⟨k,hk,rfl⟩;by_cases hlt:k<es.length
   .have hrk:=hee _ (Vg hlt);obtain ⟨q,hq⟩:∃ q,q=es[k]:=⟨_,rfl⟩;have hrow2:(ib es)[k]?.getD []=[.sl 3 (q.map HG)]:=by rw [hq];simp [ib,hlt]
    have et:n8 (aU (es.take (k+1)))=n8 (aU (es.take k)) ++ [[.sl 1 (q.map fun e=>[eI e.dst])]]:=by
     rw [Vi hlt,<- hq];simp [n8,aU,sI,Function.comp_def]
    have htl:(n8 (aU (es.take k))).length<=200:=by simp [n8,aU];omega
    rw [<- hq] at hrk;obtain ⟨E,hE⟩:∃ E,E=n8 (aU (es.take k)):=⟨_,rfl⟩;rw [<- hE] at et htl ⊢
    repeat' first|refine gf (kf @hrow2 @hlt) ?_|decide|refine sp ?_ ?_<;>intro _
    refine ae (fun st=>∃ j:Nat,j<=q.length /\ st=⟨105,[(1,sI c),(3,aX l),(4,.op 0 0 0),(6,.op 1 0 0),(10,.sl 9 ((l.map ah.op).map uV)),(11,.osl 2),(12,eI (k:Int)),(13,.osl 3),(14,eI (j:Int))],[(0,some (.box 32 (aQ m))),(1,some (.box 40 [.sl 6 (nds.map iQ),.sl 1 (ib es)])),(2,some (.row 87 1 E)),(3,some (.row 3 1 ((q.take j).map fun e=>[eI e.dst])))],4⟩) (fun st=>q.length - ap st 14) ⟨_,((be 13 3 1 (by simp only [iz,aj.get,bb,aj.put,↓reduceIte,reduceCtorEq,Nat.reduceLT,Nat.reduceEqDiff,Nat.reduceAdd,Nat.reduceLeDiff,eq_self,implies_true,Vu])).trans (wS [0,1,2,3] @Vu)),0,Vd _,rfl⟩ ?_;rintro _ ⟨j,hj,rfl⟩;by_cases hlt2:j<q.length
    .have et2:(q.take (j+1)).map (fun e=>[eI e.dst])=(q.take j).map (fun e=>[eI e.dst]) ++ [[eI q[j].dst]]:=dc _ _ hlt2;have htl2:(q.take j).length<=1000000:=by rw [Vr];omega
     obtain ⟨x,hx2⟩:∃ x,x=q[j]:=⟨_,rfl⟩;have hrx:(q.map HG)[j]?.getD []=HG x:=by rw [hx2];simp [hlt2]
     rw [<- hx2] at et2
     repeat' first|refine gf (kf @hrow2 (kf @hlt (kf @hlt2 @hrx))) ?_|decide|refine sp ?_ ?_<;>intro _|(with_reducible apply And.intro)
     all_goals first
      | rfl
      | omega
      | exact rI (wS [0,1,2,5] et2) ⟨j+1,by omega,rfl⟩
    .obtain rfl:j=q.length:=by omega
     repeat' first|refine gf (kf @hrow2 (kf @hlt (kf @hlt2 @Vq))) ?_|decide|refine sp ?_ ?_<;>intro _|(with_reducible apply And.intro)
     all_goals first
      | rfl
      | omega
      | exact rI (wS [0,1,5] (kf et hE)) ⟨k+1,by omega,rfl⟩
   .obtain rfl:k=es.length:=by omega
    repeat' first|refine gf (kf @hlt @Vq) ?_|decide|refine sp ?_ ?_<;>intro _
    refine ae (fun st=>∃ k:Nat,k<=l.length /\ st=⟨105,[(1,sI c),(3,aX l),(4,.op 0 0 0),(6,.op 1 0 0),(10,.sl 9 ((l.map ah.op).map uV)),(11,.osl 2),(15,.osl 3),(16,eI (k:Int))],[(0,some (.box 32 (aQ m))),(1,some (.box 40 [.sl 6 (nds.map iQ),.sl 1 (ib es)])),(2,some (.row 87 1 (n8 (aU es)))),(3,some (.row 43 1 (jL ((l.take k).map (lJ m c nds)))))],4⟩) (fun st=>l.length - ap st 16) ⟨_,((be 15 43 1 (by simp only [iz,aj.get,bb,aj.put,↓reduceIte,reduceCtorEq,Nat.reduceLT,Nat.reduceEqDiff,Nat.reduceAdd,Nat.reduceLeDiff,eq_self,implies_true,Vu,VL])).trans (wS [0,1,2,3] @Vu)),0,Vd _,rfl⟩ ?_;rintro _ ⟨k,hk,rfl⟩;by_cases hlt3:k<l.length
    .obtain ⟨x,hx2⟩:∃ x,x=l[k]:=⟨_,rfl⟩;have hrx:(l.map cq)[k]?.getD []=cq x:=by rw [hx2];simp [hlt3]
     have hxm:x ∈ l:=by rw [hx2];exact Vg hlt3
     have et:jL ((l.take (k+1)).map (lJ m c nds))=jL ((l.take k).map (lJ m c nds)) ++ [[.sl 1 (nds.map fun n=>[eB (sf m c n x)])]]:=by
      rw [Vi hlt3,<- hx2];simp [jL,lJ,fI,Function.comp_def]
     have htl:(jL ((l.take k).map (lJ m c nds))).length<=64:=by simp [jL];omega
     obtain ⟨E,hE⟩:∃ E,E=jL ((l.take k).map (lJ m c nds)):=⟨_,rfl⟩;rw [<- hE] at et htl ⊢
     repeat' first|refine gf @hlt3 ?_|decide|refine sp ?_ ?_<;>intro _
     refine ae (fun st=>∃ j:Nat,j<=nds.length /\ st=⟨105,[(1,sI c),(3,aX l),(4,.op 0 0 0),(6,.op 1 0 0),(10,.sl 9 ((l.map ah.op).map uV)),(11,.osl 2),(15,.osl 3),(16,eI (k:Int)),(17,.osl 4),(18,eI (j:Int))],[(0,some (.box 32 (aQ m))),(1,some (.box 40 [.sl 6 (nds.map iQ),.sl 1 (ib es)])),(2,some (.row 87 1 (n8 (aU es)))),(3,some (.row 43 1 E)),(4,some (.row 4 1 ((nds.take j).map fun n=>[eB (sf m c n x)])))],5⟩) (fun st=>nds.length - ap st 18) ⟨_,((be 17 4 1 (by simp only [iz,aj.get,bb,aj.put,↓reduceIte,reduceCtorEq,Nat.reduceLT,Nat.reduceEqDiff,Nat.reduceAdd,Nat.reduceLeDiff,eq_self,implies_true,Vu])).trans (wS [0,1,2,3,4] @Vu)),0,Vd _,rfl⟩ ?_;rintro _ ⟨j,hj,rfl⟩;by_cases hlt4:j<nds.length
     .have et2:(nds.take (j+1)).map (fun n=>[eB (sf m c n x)])=(nds.take j).map (fun n=>[eB (sf m c n x)]) ++ [[eB (sf m c nds[j] x)]]:=dc _ _ hlt4;have htl2:(nds.take j).length<=1000000:=by rw [Vr];omega
      have hAt:=hat nds[j] (Vg hlt4) x hxm;obtain ⟨y,hy⟩:∃ y,y=nds[j]:=⟨_,rfl⟩;have hry:(nds.map iQ)[j]?.getD []=iQ y:=by rw [hy];simp [hlt4]
      rw [<- hy] at et2 hAt
      repeat' first|refine ge (kf @hlt3 (kf @hlt4 (kf @hrx @hry))) ?_|decide|refine sp ?_ ?_<;>intro _
      refine ay [4] [0,1,2,3,4,5,6,7,8,9,10,11] (.exec 12 (.exec 13 (.exec 14 (.exec 15 .done)))) (by kernel_rfl) (by simp [af.gc]) ?_
      repeat' first|refine gf (kf @hlt3 (kf @hlt4 (kf @hrx @hry))) ?_|decide|refine sp ?_ ?_<;>intro _|refine cA hAt ?_|(with_reducible apply And.intro)
      all_goals first
       | rfl
       | omega
       | exact rI (wS [0,1,2,3,6] et2) ⟨j+1,by omega,rfl⟩
     .obtain rfl:j=nds.length:=by omega
      repeat' first|refine gf (kf @hlt3 (kf @hlt4 @Vq)) ?_|decide|refine sp ?_ ?_<;>intro _|(with_reducible apply And.intro)
      all_goals first
       | rfl
       | omega
       | exact rI (wS [0,1,2,6] (kf et hE)) ⟨k+1,by omega,rfl⟩
    .obtain rfl:k=l.length:=by omega
     have ew:IntKind.i64.wrap ((l.length:Int) - 1)=((l.length - 1:Nat):Int):=by rw [aB (by omega) (by omega)];omega
     repeat' first|refine ge (kf @hlt3 (kf @Vq ew)) ?_|decide|refine sp ?_ ?_<;>intro _
     refine qY [2,3] (R:=⟨fI V,[],0⟩) ?_ ?_ ?_
     .repeat' first|decide|refine go ?_
      exact hA
     .repeat' first|decide|refine go ?_
      left;simp [fc,fH,aR,aY]
     .repeat' first|refine ge @bh ?_|decide|refine sp ?_ ?_<;>intro _
      all_goals exact fM rfl
  .have en:((nds.length:Int) != (es.length:Int))=true:=bne_iff_ne.2 (by omega);have hR:eH nds.length es (lJ m c nds) l=⟨.tup [.c (.slice none 0 0),eI 17],[],0⟩:=Vj fun h=>hne h.2;rw [hR]
   repeat' first|refine gf (kf z en) ?_|decide|refine sp ?_ ?_<;>intro _|refine cA hI ?_|refine cA hC ?_|fail
   all_goals exact fM rfl
 .have z:(lB (l.map ah.op) != 0)=true:=by simp [hc]
  have hR:eH nds.length es (lJ m c nds) l=⟨.tup [.c (.slice none 0 0),eI 17],[],0⟩:=Vj fun h=>hc h.1;rw [hR]
  repeat' first|refine gf z ?_|decide|refine sp ?_ ?_<;>intro _|refine cA hI ?_|refine cA hC ?_|fail
  all_goals exact fM rfl
end
section
abbrev A9:AV:=.c (.slice none 0 0)
abbrev nj:List AV:=[A9,A9,eI 0,eI 0,A9,A9]
abbrev US:List AV:=[A9,eI 0,eI 0,A9,A9]
def S4:bl:=⟨[],[],[],[],[],[],[],[],[],[]⟩
theorem Lk:aw Tryz.prog 128 [A9] (val (.slice none 0 0)):=by
 refine aa ag Tryz.func128 rfl (by decide) Tryz.ntmps128 Tryz.results128 rfl (aI _) ?_
 repeat' first|refine gq ?_|decide|refine sp ?_ ?_<;>intro _
theorem Sh:(⟨.agg US,[],0⟩:cS).Ok:=⟨fun id o h=>(by cases h),⟨trivial,trivial,trivial,trivial,trivial,trivial⟩⟩
theorem FS0:aw Tryz.prog 90 [.agg nj] ⟨.agg US,[],0⟩:=by
 refine aa ag Tryz.func90 rfl (by decide) Tryz.ntmps90 Tryz.results90 rfl (Sh) ?_
 repeat' first|refine go ?_|decide|refine sp ?_ ?_<;>intro _
 refine ay [1] [0,1,2,3,4,5,7,8] (.exec 6 (.exec 9 (.take 10 (.exec 11 .done)))) (by kernel_rfl) (by simp [af.gc]) ?_
 repeat' first|refine gq ?_|decide|refine sp ?_ ?_<;>intro _|((with_reducible first|apply ax (g:=128)|apply aL (g:=128));exact Lk)|(with_reducible apply And.intro)
 all_goals exact fM rfl
theorem PW:(⟨.tup [eB true,eB true],[],0⟩:cS).Ok:=⟨fun id o h=>(by cases h),⟨trivial,trivial,trivial⟩⟩
theorem It:aw Tryz.prog 91 [.agg (aQ S4),.agg US,.agg (cq dD)] ⟨.tup [eB true,eB true],[],0⟩:=by
 refine aa ag Tryz.func91 rfl (by decide) Tryz.ntmps91 Tryz.results91 rfl (PW) ?_
 repeat' first|refine go ?_|simp only [Int.reduceBEq]|decide|refine sp ?_ ?_<;>intro _
 exact fM rfl
theorem T3:aw Tryz.prog 42 [.agg (aQ S4),sI [],.agg nj,.agg (cq dD)] (val (.bool true)):=by
 refine aa ag Tryz.func42 rfl (by decide) Tryz.ntmps42 Tryz.results42 rfl (aI _) ?_
 repeat' first|refine go ?_|decide|refine sp ?_ ?_<;>intro _
 refine bJ FS0 (ro) ?_
 repeat' first|refine go ?_|decide|refine sp ?_ ?_<;>intro _
 refine bJ It (ro) ?_
 repeat' first|refine go ?_|decide|refine sp ?_ ?_<;>intro _
theorem Kq:aw Tryz.prog 22 [.agg (aQ S4),sI [],.sl 6 [nj],.agg (cq dD)] (g8 4 1 (dM [true])):=by
 refine aa ag Tryz.func22 rfl (by decide) Tryz.ntmps22 Tryz.results22 rfl (ch _ _ _) ?_
 repeat' first|refine go ?_|decide|refine sp ?_ ?_<;>intro _
 refine ae (fun st=>∃ k:Nat,k<=1 /\ st=⟨28,[(1,sI []),(4,.op 0 0 0),(7,.op 1 0 0),(9,.osl 2),(12,.sl 6 [nj]),(13,eI 1),(14,eI (k:Int))],[(0,some (.box 32 (aQ S4))),(1,some (.box 61 (cq dD))),(2,some (.row 4 1 (dM (List.replicate k true))))],3⟩) (fun st=>1 - ap st 14) ⟨_,((be 9 4 1 (by simp only [iz,aj.get,bb,aj.put,↓reduceIte,reduceCtorEq,Nat.reduceLT,Nat.reduceEqDiff,Nat.reduceAdd,Nat.reduceLeDiff,eq_self,implies_true,Xe,VL])).trans (wS [0,1,2] @Xe)),0,by omega,rfl⟩ ?_;rintro _ ⟨k,hk,rfl⟩;by_cases hlt:k<1
 .obtain rfl:k=0:=by omega
  have z:decide (((0:Nat):Int)<1)=true:=rfl;have r0:([nj]:List (List AV))[Int.toNat ((0:Nat):Int)]?.getD []=nj:=rfl;have i0:(0:Int)<=((0:Nat):Int):=by omega
  have i1:((0:Nat):Int)<((0+1:Nat):Int):=by omega
  repeat' first|refine ge (kf z (kf r0 (kf i0 i1))) ?_|decide|refine sp ?_ ?_<;>intro _
  refine ax T3 ?_
  repeat' first|refine ge @Xe ?_|decide|refine sp ?_ ?_<;>intro _
  refine ⟨rfl,cZ (wS [0,1,5] (kf @Xe @List.replicate_succ.{0})) ⟨1,by omega,rfl⟩ (by simp only [ap,aj.get,bb,aj.put,↓reduceIte,Nat.reduceLT,Nat.reduceEqDiff];omega)⟩
 obtain rfl:k=1:=by omega
 have z:decide (((1:Nat):Int)<1)=false:=rfl
 repeat' first|refine ge z ?_|decide|refine sp ?_ ?_<;>intro _
 exact aM (by simp [af.gc])
abbrev PC:List ah:=[dD,⟨23,0,0,0,0,0,0⟩]
abbrev PR:List (List nT):=[[⟨-1,-1,0⟩]]
theorem Ez:gg PC=([tx dD,dB 0,u6 0 1,dB 2],[3]):=by decide +kernel
theorem Ou:bf (PC.map ah.op)=0:=by decide +kernel
theorem Qd:ux [[0]] [true] [false]=[false]:=by
 have h:∀ i,¬ DW [[0]] [true] [false] i:=by
  intro i h
  induction h with
  | here i h1 h2=>cases i<;>simp at h2
  | step i k h1 h2 h3 h4 ih=>exact ih
 simp [ux,h,Wn]
theorem NP (at_:ah -> List Bool) (h:at_ dD=[true]):gu (aU PR) at_ PC=[true]:=by
 unfold gu;rw [Ez];have e:aU PR=[[0]]:=rfl;rw [e];have s1:gv [[0]] at_ [] (tx dD)=[true]:=by rw [gv,Vo (by decide)];exact h
 have s2:gv [[0]] at_ [[true]] (dB 0)=[false]:=by rw [gv,Vj (by decide)];rfl
 have s3:gv [[0]] at_ [[true],[false]] (u6 0 1)=[false]:=by
  rw [gv,Vj (by decide)];show ux [[0]] [true] [false]=[false];exact Qd
 have s4:gv [[0]] at_ [[true],[false],[false]] (dB 2)=[true]:=by rw [gv,Vj (by decide)];rfl
 simp only [dm,List.foldl_cons,WV,WW,Ww,s1,s2,s3,s4];rfl
theorem Fe:∀ x ∈ PC,x.ok:=by
 intro x hx;simp at hx;rcases hx with rfl|rfl<;>simp [ah.ok,aF]
theorem KD:aw Tryz.prog 10 [.agg (aQ S4),sI [],.agg [.sl 6 [nj],.sl 1 (ib PR)],aX PC] ⟨.tup [eB true,eI 0],[],0⟩:=by
 have hnx:nc (aU PR):=⟨by decide,by decide,by
  intro r hr x hx;simp at hr;subst hr;simp at hx;subst hx;simp [aF]⟩
 have hlab:=vT S4 [] 6 [nj] (by kernel_rfl) PR PC (fun _=>[true]) Fe (by decide) (by decide) (by decide) (by decide) (fun _=>hnx) (fun _ s hs _ hop _=>by
  rw [Ez] at hs;simp only [Wf,List.not_mem_nil,or_false] at hs;rcases hs with rfl|rfl|rfl|rfl
  .exact ⟨Kq,rfl⟩
  all_goals exact absurd hop (by decide))
 have hl:=NP (fun _=>[true]) rfl;have h:=wz S4 [] 6 [nj] PR PC (fun _=>[true]) hlab (fun _=>by rw [hl];rfl)
 have hH:gV [nj].length PR (fun _=>[true]) PC=⟨.tup [eB true,eI 0],[],0⟩:=by
  rw [gV,Vo ⟨Ou,rfl⟩,Vj (by decide),hl];rfl
 rw [hH] at h;exact h
theorem kl:aw Tryz.prog 5 [] (val (.bool true)):=by
 refine aa ag Tryz.func5 rfl (by decide) Tryz.ntmps5 Tryz.results5 rfl (aI _) ?_
 repeat' first|refine go ?_|decide|refine sp ?_ ?_<;>intro _
 refine ⟨by decide,rfl,rfl,rfl,?_⟩;refine bJ (KD.fits ⟨.agg ⟨.nil 1,.nil 1,.nil 1,.nil 2,.nil 2,.nil 5,.nil 3,.nil 5,.nil 2,.nil 2,trivial⟩,.one (.nil 1),.one (.refl _),.one (.refl _),trivial⟩) (.inr ⟨trivial,trivial,trivial⟩) ?_
 repeat' first|refine go ?_|simp only [Int.reduceBEq]|decide|refine sp ?_ ?_<;>intro _
theorem bM:nc []:=⟨by decide,by simp,by simp⟩
end
section
theorem oU {α:Type} [DecidableEq α]:∀ (l p:List α),l.Nodup -> (∀ x ∈ l,x ∈ p) -> l.length<=p.length
 | [],_,_,_=>Vd _
 | x :: l,p,hn,hs=>by
  rw [List.nodup_cons] at hn;have hx:x ∈ p:=hs x Wc;have h1:=oU l (p.erase x) hn.2 fun y hy=>(List.mem_erase_of_ne (fun e:y=x=>hn.1 (by rw [<- e];exact hy))).2 (hs y (V0 _ hy));rw [List.length_erase_of_mem hx] at h1;have:=List.length_pos_of_mem hx;rw [VN];omega
theorem AI {α:Type} [DecidableEq α] (l:List α):(cn l).Nodup:=by
 have key:∀ k,k<=l.length -> (cn (l.take k)).Nodup:=fun k=>by
  induction k with
  | zero=>intro _;simp [cn]
  | succ k ih=>
   intro hk;have h:=ih (by omega);rw [kZ (by omega)];split
   .exact h
   .rename_i hm;rw [Xq];refine ⟨h,by simp,fun a ha b hb=>?_⟩;simp only [VH] at hb;rw [hb];exact fun e=>hm (e ▸ ha)
 have:=key l.length (Vh _)
 rwa [Vq] at this
theorem B7 {m:bl} {c:List Int} {n:Nd} {k:Nat} {s:Sn} (h:s ∈ dy m c n k):∃ e u:Nat,e<k /\ u<m.users.length /\ s.ev=(e:Int) /\ s.us=(u:Int):=by
 obtain ⟨e,he,h1⟩:=V7.1 h;obtain ⟨u,hu,h2⟩:=V7.1 h1;obtain ⟨z,_,rfl⟩:=Vx.1 h2;have:=mW hu;exact ⟨e,u.toNat,WM.1 he,by omega,rfl,by show u=_;omega⟩
theorem Ap {m:bl} {c:List Int} {n:Nd} (hE:gF m c) {N:List Nd} (hN:∀ s ∈ kp m c n,s.nd ∈ N):(kp m c n).length<=24 * N.length+1:=by
 unfold kp at hN ⊢;split
 .rename_i hP;rw [Vo hP] at hN
  have h1:=oU (cn (dy m c n m.events.length)) ((List.range 6).flatMap fun e=>(List.range 4).flatMap fun u=>N.map fun x=>(⟨((e:Nat):Int),((u:Nat):Int),x⟩:Sn)) (AI _) fun s hs=>by
   have hsN:=hN s (List.mem_append_left _ hs);rw [mO] at hs;obtain ⟨e,u,he,hu,h2,h3⟩:=B7 hs;have h4:=hE.ck.chk.events;have h5:=hE.ck.chk.users;refine V7.2 ⟨e,WM.2 (by omega),V7.2 ⟨u,WM.2 (by omega),Vx.2 ⟨s.nd,hsN,?_⟩⟩⟩;rw [<- h2,<- h3]
  have h6:((List.range 6).flatMap fun e=>(List.range 4).flatMap fun u=>N.map fun x=>(⟨((e:Nat):Int),((u:Nat):Int),x⟩:Sn)).length<=6 * (4 * N.length):=by
   have:=gW (fun e:Nat=>(List.range 4).flatMap fun u=>N.map fun x=>(⟨((e:Nat):Int),((u:Nat):Int),x⟩:Sn)) (4 * N.length) (List.range 6) fun e _=>by
    have:=gW (fun u:Nat=>N.map fun x=>(⟨((e:Nat):Int),((u:Nat):Int),x⟩:Sn)) N.length (List.range 4) fun u _=>by simp
    simpa using this
   simpa using this
  rw [Vk];split
  .simp only [Wq];omega
  .simp only [Vz];omega
 .exact Vd _
section
variable {m:bl} {c:List Int} {N:List Nd} {E:List (List nT)}
theorem RM (hX:uO m c N E N.length):1<=N.length:=by
 have:=(Vf.1 hX.first).1;omega
theorem G2 (hX:uO m c N E N.length) {n:Nd} (hn:n ∈ N):∀ s ∈ kp m c n,s.nd ∈ N:=by
 intro s hs;obtain ⟨i,hi,rfl⟩:=VD hn;obtain ⟨j,hj,rfl⟩:=VD hs;have hr:=hX.rows i hi (by rw [hX.len];exact hi);obtain ⟨_,_,_,h⟩:=hr.2 j hj (by rw [hr.1];exact hj);exact Os h
theorem NY (hX:uO m c N E N.length) (hE:gF m c) (h120:N.length<=160):nc (aU E) /\ Na (aU E) /\ (aU E).length=N.length:=by
 have hl:(aU E).length=N.length:=by simp [aU,hX.len]
 have hd:∀ r ∈ aU E,r.length<=4000 /\ ∀ x ∈ r,0<=x /\ x<(N.length:Int):=fun r hr=>by
  obtain ⟨q,hq,rfl⟩:=Vx.1 hr;obtain ⟨i,hi,rfl⟩:=VD hq;have hi2:i<N.length:=by rw [<- hX.len];exact hi
  have h1:=hX.rows i hi2 hi;have h2:=Ap hE (G2 hX (Vg hi2));refine ⟨by rw [Vp,h1.1];omega,fun x hx=>?_⟩;obtain ⟨e,he,rfl⟩:=Vx.1 hx;obtain ⟨j,hj,rfl⟩:=VD he;obtain ⟨_,_,h3,h4⟩:=h1.2 j (by rw [<- h1.1];exact hj) hj;have:=(Vf.1 h4).1;omega
 refine ⟨⟨by omega,fun r hr=>(hd r hr).1,fun r hr x hx=>?_⟩,fun r hr x hx=>?_,hl⟩
 .have:=(hd r hr).2 x hx;unfold aF;omega
 .rw [hl];exact (hd r hr).2 x hx
theorem FH (m:bl) (c:List Int) (n:Nd):sf m c n dD=true:=by simp [sf,fe]
theorem JZ (m:bl) (c:List Int) (N:List Nd):lJ m c N dD=List.replicate N.length true:=by
 unfold lJ;rw [List.eq_replicate_iff];refine ⟨by simp,fun b hb=>?_⟩;obtain ⟨n,_,rfl⟩:=Vx.1 hb;exact FH m c n
theorem l6 (ops:List Int):bf ops=0 ↔ lB ops=0:=by
 unfold bf lB;by_cases h0:ops.length=0
 .simp [h0]
 .by_cases h1:64<ops.length
  .simp [h0,h1]
  .have:=vL ops h0 (by omega);simp only [h0,h1,if_false];by_cases h2:bx ops 0=some 1
   .rw [Vo h2,Vo (this.2 h2)]
   .rw [Vj h2,Vj fun h=>h2 (this.1 h)]
end
theorem ze (a:List Bool) (ha:a.length<=1000000):aw Tryz.prog 11 [fI a,fI a] (val (.bool true)):=by
 refine aa ag Tryz.func11 rfl (by decide) Tryz.ntmps11 Tryz.results11 rfl (aI _) ?_;have z:((a.length:Int) != (a.length:Int))=false:=by simp
 repeat' first|refine ge z ?_|decide|refine sp ?_ ?_<;>intro _
 refine ae (fun st=>∃ k:Nat,k<=a.length /\ st=⟨26,[(0,fI a),(1,fI a),(5,eI (k:Int))],[],0⟩) (fun st=>a.length - ap st 5) ⟨_,wC,0,Vd _,rfl⟩ ?_;rintro _ ⟨k,hk,rfl⟩;by_cases hlt:k<a.length
 .obtain ⟨x,hx⟩:∃ x,x=a[k]:=⟨_,rfl⟩;have hrow:(a.map fun b=>[eB b])[k]?.getD []=[eB x]:=by rw [hx];simp [hlt]
  have z1:(x == x)=true:=by simp
  repeat' first|refine gf (kf @hrow (kf @hlt (kf z1 @XP))) ?_|decide|refine sp ?_ ?_<;>intro _
  all_goals exact rI wC ⟨k+1,by omega,rfl⟩
 .obtain rfl:k=a.length:=by omega
  repeat' first|refine gf @hlt ?_|decide|refine sp ?_ ?_<;>intro _
abbrev M1:AV:=.agg [.c (.slice none 0 0),.c (.slice none 0 0)]
abbrev TT (N:List Nd) (E:List (List nT)):AV:=.agg [.sl 6 (N.map iQ),.sl 1 (ib E)]
def Uq (m:bl) (c:List Int) (R:cS):Prop:=R=⟨.tup [M1,M1,eB false],[],0⟩ \/ ∃ N E,gF m c /\ uO m c N E N.length /\ N.length<=120 /\ R=⟨.tup [TT N E,TT N E,eB true],[],0⟩
theorem Oj (m:bl) (c:List Int) (hp:∀ p ∈ m.stages,aF p.2) (hr:∀ p ∈ m.roles,aF p.2) (hi:∀ x ∈ m.inits,aF x) (hc:∀ x ∈ c,aF x):dQ Tryz.prog 7 [.agg (aQ m),sI c] (Uq m c):=by
 refine bj ag Tryz.func7 rfl (by decide) Tryz.ntmps7 Tryz.results7 rfl ?_;have rN:∀ st:aj,∃ R,Uq m c R /\ R.Ok /\ d9 R st (.tup [M1,M1,eB false]):=fun st=>⟨_,.inl rfl,⟨fun id o h=>(by cases h),by simp [AV.lt,AV.ltL]⟩,aV (by simp [AV.ren,AV.renL])⟩
 repeat' first|refine go ?_|decide|refine sp ?_ ?_<;>intro _
 refine mp (E3 m) fun b hb=>?_
 cases b with
 | true=>
  repeat' first|refine go ?_|decide|refine sp ?_ ?_<;>intro _
  all_goals exact rN _
 | false=>
  have hf:=hb rfl
  repeat' first|refine go ?_|decide|refine sp ?_ ?_<;>intro _
  refine mp (DN m hf hp) fun b hck=>?_
  cases b with
  | false=>
   repeat' first|refine go ?_|decide|refine sp ?_ ?_<;>intro _
   all_goals exact rN _
  | true=>
   have hck:=hck rfl;by_cases h6:c.length<=6
   .have hE:gF m c:=⟨hf,hck,by omega,hc,hp,hr⟩;have hd:decide ((6:Int)<(c.length:Int))=false:=Vv (by omega);have hX:=FW m c 120 hE hi (by omega);have e120:((120:Nat):Int)=120:=rfl;rw [e120] at hX
    repeat' first|refine ge hd ?_|decide|refine sp ?_ ?_<;>intro _
    refine tQ hX ?_;rintro R (rfl | ⟨N,E,hXk,hNl,rfl⟩)
    .refine ⟨ro,?_⟩
     repeat' first|refine ge @bh ?_|decide|refine sp ?_ ?_<;>intro _
     refine ay [1,2] [0,1,2,3,4,5,6] (.exec 7 (.exec 8 (.exec 9 .done))) (by kernel_rfl) (by simp [af.gc]) ?_
     repeat' first|refine go ?_|decide|refine sp ?_ ?_<;>intro _
     repeat' (with_reducible apply And.intro)
     all_goals exact rN _
    .refine ⟨ro,?_⟩
     repeat' first|refine ge @bh ?_|decide|refine sp ?_ ?_<;>intro _
     refine ay [1,2] [0,1,2,3,4,5,6] (.exec 7 (.exec 8 (.exec 9 .done))) (by kernel_rfl) (by simp [af.gc]) ?_
     repeat' first|refine go ?_|decide|refine sp ?_ ?_<;>intro _
     repeat' (with_reducible apply And.intro)
     all_goals exact ⟨_,.inr ⟨N,E,hE,hXk,hNl,rfl⟩,⟨fun id o h=>(by cases h),by simp [AV.lt,AV.ltL]⟩,aV (by simp [AV.ren,AV.renL])⟩
   .have hd:decide ((6:Int)<(c.length:Int))=true:=Vy (by omega)
    repeat' first|refine ge hd ?_|decide|refine sp ?_ ?_<;>intro _
    all_goals exact rN _
end
section
section
variable {m:bl} {c:List Int} {N:List Nd} {E:List (List nT)}
structure QR (m:bl) (c:List Int) (N:List Nd) (E:List (List nT)) (l:List ah):Prop where
 lab:aw Tryz.prog 8 [.agg (aQ m),sI c,TT N E,aX l] (iM N.length E (lJ m c N) l)
 ref:aw Tryz.prog 9 [.agg (aQ m),sI c,TT N E,aX l] (eH N.length E (lJ m c N) l)
 hol:aw Tryz.prog 10 [.agg (aQ m),sI c,TT N E,aX l] (gV N.length E (lJ m c N) l)
 sem:lB (l.map ah.op)=0 -> gu (aU E) (lJ m c N) l=uF (aU E) (lJ m c N) l /\ (uF (aU E) (lJ m c N) l).length=N.length
theorem P1 (hE:gF m c) (hX:uO m c N E N.length) (hN:N.length<=120) (l:List ah) (hx:∀ x ∈ l,x.ok) (hl:l.length<=64):QR m c N E l:=by
 obtain ⟨hnx,hin,hnl⟩:=NY hX hE (by omega);obtain ⟨hgl,hml,hsl,hel,hal,hul,hrl,hsol,hol,hil⟩:=id hE.fit.sizes;have hc9:=hE.clen;have hEl:E.length=N.length:=hX.len
 have hrows:∀ r ∈ E,r.length<=1000000:=fun r hr=>by
  have:=hnx.row (r.map nT.dst) (List.mem_map_of_mem hr);rw [Vp] at this;omega
 have hb:∀ n ∈ N,n.z.cls.length<=1000000 /\ n.did.length<=1000000 /\ n.cnt.length<=1000000:=fun n hn=>by
  have h:=hX.bnd n hn;have h1:=h.z.cl;have h2:=h.did;have h3:=h.cnt;exact ⟨by omega,by omega,by omega⟩
 have hatl:∀ x,(lJ m c N x).length=N.length:=fun x=>by simp [lJ]
 have hlab:=vT m c 6 (N.map iQ) (by kernel_rfl) E l (lJ m c N) hx (by omega) (by rw [Vp];omega) (by omega) hrows (fun _=>hnx) fun _ s _ hsx _ _=>by
  refine ⟨?_,by rw [hatl,Vp]⟩;have h:=Fo m c N s.x (by omega) (by omega) (by omega) (by omega) hsx (by omega) (by omega) hb;have e:dM (lJ m c N s.x)=N.map fun n=>[eB (sf m c n s.x)]:=by simp [lJ]
  rw [e];exact h
 rw [Vp] at hlab
 have hsem:lB (l.map ah.op)=0 -> gu (aU E) (lJ m c N) l=uF (aU E) (lJ m c N) l /\ (uF (aU E) (lJ m c N) l).length=N.length:=fun h=>by
  obtain ⟨hrow,h1,h2⟩:=vO h;refine ⟨GS hin (by rw [hnl];exact JZ m c N) hrow hx hl fun x _ _=>by rw [hatl,hnl],?_⟩;obtain ⟨g1,g2⟩:=oS (next:=aU E) (at_:=lJ m c N) hrow (fun x _ _=>by rw [hatl,hnl]) l.length (Vh _);rw [Vq] at g1 g2;rw [hrow] at g2;have h3:0<(dq (aU E) (lJ m c N) l).length:=by have:=WD g2;omega
  rw [<- hnl];exact g1 _ (gO h3)
 have hhol:=wz m c 6 (N.map iQ) E l (lJ m c N) (by rw [Vp];exact hlab) fun h=>by
  obtain ⟨h1,h2⟩:=hsem ((l6 _).1 h.1);rw [h1,h2,Vp]
 rw [Vp] at hhol;refine ⟨hlab,?_,hhol,hsem⟩;refine Cg m c N E l hl (by omega) (by omega) hrows (fun _=>hnx) fun n hn x hxm=>?_;have h:=hX.bnd n hn;obtain ⟨b1,b2,b3⟩:=hb n hn;exact Uk m c n x (by omega) (by omega) (by omega) (by omega) (by omega) hE.rol b1 (by omega) b2 b3 h.z.at_ h.opn h.don h.dok
end
theorem CY (m:bl) (h:Db m) (p:List ah) (hp:∀ x ∈ p,x.ok):∀ n ∈ i8 m p,aF n:=fun n hn=>by
 have h1:=((iD _).2 n).1 hn;have key:∀ l:List ah,(∀ x ∈ l,x.ok) -> ∀ n ∈ fk l,aF n:=fun l hl n hn=>FL l hl n (((iD _).2 n).1 hn);rcases Vs.1 h1 with h1|h1
 .rcases Vs.1 h1 with h1 | h1
  .exact key p hp n h1
  .obtain ⟨g,hg,h2⟩:=V7.1 h1;exact key _ (h.1 g hg) n h2
 .obtain ⟨g,hg,h2⟩:=V7.1 h1;exact key _ (h.2 g hg) n h2
theorem uH (m:bl) (l:List ah) (hx:∀ x ∈ l,x.ok) (hle:m.events.length<=9223372036854775807) (hp:∀ p ∈ m.stages,aF p.2) (hr:∀ p ∈ m.roles,aF p.2) (hi:∀ x ∈ m.inits,aF x) (hcd:Db m) (hgl:m.guards.length<=11000000) (hml:m.miles.length<=11000000) (hT:l.length+(m.guards.map fun g=>g.cond.length).sum+(m.miles.map fun g=>g.cond.length).sum<=1100000):aw Tryz.prog 3 [.agg (aQ m),aX l] (val (.bool true)):=by
 refine aa ag Tryz.func3 rfl (by decide) Tryz.ntmps3 Tryz.results3 rfl (aI _) ?_;by_cases hl:l.length<=64
 .have d0:decide ((64:Int)<(l.length:Int))=false:=Vv (by omega);have hC:=u7 m l hgl hml hT
  repeat' first|refine gf d0 ?_|decide|refine sp ?_ ?_<;>intro _|refine cA hC ?_|fail
  refine tQ (Oj m (i8 m l) hp hr hi (CY m hcd l hx)) ?_;rintro R (rfl | ⟨N,E,hE,hX,hN,rfl⟩)
  .refine ⟨ro,?_⟩
   repeat' first|refine gf @bh ?_|decide|refine sp ?_ ?_<;>intro _|((with_reducible first|apply ax (g:=5)|apply aL (g:=5));exact kl)
   trace_state
  .refine ⟨ro,?_⟩;have z1:((17:Int) != 17)=false:=rfl;have z2:((17:Int) == 0)=false:=rfl;have z3:((0:Int) != 0)=false:=rfl;have z4:((0:Int) == 0)=true:=rfl;have z5:(true == true)=true:=rfl;have z6:(false == false)=true:=rfl;obtain ⟨hlab,href,hhol,hsem⟩:=P1 hE hX hN l hx hl;have hln:N.length=E.length:=hX.len.symm;have hpos:=RM hX;by_cases hk:lB (l.map ah.op)=0
   .obtain ⟨s1,s2⟩:=hsem hk;obtain ⟨B,hB⟩:∃ B,uF (aU E) (lJ m (i8 m l) N) l=B:=⟨_,rfl⟩;rw [hB] at s1 s2;rw [iM,Vo ⟨(l6 _).2 hk,hln⟩,s1] at hlab;rw [eH,Vo ⟨hk,hln⟩,hB] at href;rw [gV,Vo ⟨(l6 _).2 hk,hln⟩,Vj (by omega),s1] at hhol;have hS:=ze B (by omega);obtain ⟨b,hb⟩:∃ b,B.getD 0 false=b:=⟨_,rfl⟩;have h0:(0:Int)<(B.length:Int):=(by omega)
    have hz:(dM B)[Int.toNat 0]?.getD []=[eB b]:=by
     have:0<B.length:=by omega
     rw [<- hb];simp [this]
    rw [hb] at hhol
    cases b with
    | true=>
     repeat' first|refine gf (kf @bh (kf hz (kf h0 (kf z1 (kf z2 (kf z3 (kf z4 (kf z5 z6)))))))) ?_|decide|refine sp ?_ ?_<;>intro _|refine cA hlab ?_|refine cA href ?_|refine cA hhol ?_|refine cA hS ?_|((with_reducible first|apply ax (g:=5)|apply aL (g:=5));exact kl)
    | false=>
     repeat' first|refine gf (kf @bh (kf hz (kf h0 (kf z1 (kf z2 (kf z3 (kf z4 (kf z5 z6)))))))) ?_|decide|refine sp ?_ ?_<;>intro _|refine cA hlab ?_|refine cA href ?_|refine cA hhol ?_|refine cA hS ?_|((with_reducible first|apply ax (g:=5)|apply aL (g:=5));exact kl)
   .rw [iM,Vj fun h=>hk ((l6 _).1 h.1)] at hlab;rw [eH,Vj fun h=>hk h.1] at href;rw [gV,Vj fun h=>hk ((l6 _).1 h.1)] at hhol;have hS:=(ze [] (by simp)).fits (args:=[.c (.slice none 0 0),.c (.slice none 0 0)]) ⟨.one (.nil 1),.one (.nil 1),trivial⟩
    repeat' first|refine gf (kf @bh (kf z1 (kf z2 (kf z3 (kf z4 (kf z5 z6)))))) ?_|decide|refine sp ?_ ?_<;>intro _|refine cA hlab ?_|refine cA href ?_|refine cA hhol ?_|refine cA hS ?_|((with_reducible first|apply ax (g:=5)|apply aL (g:=5));exact kl)
 .have d0:decide ((64:Int)<(l.length:Int))=true:=Vy (by omega)
  repeat' first|refine gf d0 ?_|decide|refine sp ?_ ?_<;>intro _|((with_reducible first|apply ax (g:=5)|apply aL (g:=5));exact kl)
end
section
open Go.RowKit Go.ChangeShapes Go.WideShapes Go.Deep
theorem KW {H:Type} (d:DataW H):1<=Rows.uptoBulk d:=by
 cases d with
 | lit l=>cases l<;>simp [Rows.uptoBulk]
 | nil=>simp [Rows.uptoBulk]
 | ptr d=>simp [Rows.uptoBulk]
 | slice elems spare=>simp [Rows.uptoBulk]
 | agg parts=>simp [Rows.uptoBulk]
 | iface t d=>simp [Rows.uptoBulk]
 | map entries=>simp [Rows.uptoBulk]
 | held h=>simp [Rows.uptoBulk]
theorem vM {H:Type} {l:List (DataW H)}:∀ {i:Nat} {d:DataW H},l[i]? = some d -> Rows.uptoBulk d<=Rows.uptoBulkAll l:=by
 induction l with
 | nil=>intro i d h;simp at h
 | cons x r ih=>
  intro i d h;simp only [Rows.uptoBulkAll]
  cases i with
  | zero=>simp at h;subst h;omega
  | succ i=>have:=ih (i:=i) (d:=d) (by simpa using h);omega
theorem LQ {H:Type} {l:List (DataW H)}:∀ {i j:Nat} {d e:DataW H},i<j -> l[i]? = some d -> l[j]? = some e -> Rows.uptoBulk d+Rows.uptoBulk e<=Rows.uptoBulkAll l:=by
 induction l with
 | nil=>intro i j d e _ h;simp at h
 | cons x r ih=>
  intro i j d e hij h h2;simp only [Rows.uptoBulkAll]
  cases j with
  | zero=>omega
  | succ j=>
   have h2':r[j]? = some e:=by simpa using h2
   cases i with
   | zero=>simp at h;subst h;have:=vM h2';omega
   | succ i=>have:=ih (i:=i) (j:=j) (by omega) (by simpa using h) h2';omega
def qT {α:Type} (P:Program) (t:TypeId) (r:gw α) (sz:α -> Nat):Prop:=∀ (H:Type) (enc:TypeId × Value -> H) (w:World) (S:Nat -> Prop) (fuel:Nat) (cs:List Value) (x:DataW H × List MemPlace) (a:α),
 DataW.trod enc P w 0 (fun _=>true) true fuel t cs=some x -> r.at_ w S cs a -> sz a<=Rows.uptoBulk x.1
theorem GM {α:Type} (P:Program) (t:TypeId) (r:gw α):qT P t r fun _=>1:=fun _ _ _ _ _ _ x _ _ _=>KW x.1
theorem wy {α β:Type} {P:Program} {t:TypeId} {fs:Array Field} {r:gw α} {s:gw β} (ht:P.underlying t=some (.struct fs)) (i:Nat) (f:Field) (hi:fs[i]? = some f) (sz:β -> Nat) (hb:qT P f.type s sz)
  (off n:Nat) (ho:f.offset=off) (hc:P.cellsOf f.type=n) (g:α -> β) (hg:∀ w S cs a,r.at_ w S cs a -> s.at_ w S ((cs.drop off).take n) (g a)):qT P t r fun a=>sz (g a)+1:=by
 subst ho hc;intro H enc w S fuel cs x a hx ha;obtain ⟨xs,n,_,rfl,hl,hlen,hf⟩:=DataW.trod_struct ht hx;have h1:=hf i f hi;have hil:i<xs.length:=by rw [hlen];exact (VK.1 hi).1
 rw [p0 hil] at h1;have h2:=hb H enc w S n _ _ _ h1 (hg w S cs a ha);have h3:(xs.map (·.1))[i]? = some xs[i].1:=by simp [hil]
 have h4:=vM h3;simp only [Rows.uptoBulk];omega
theorem qO {H α:Type} (sz:α -> Nat):∀ (ds:List (DataW H)) (l:List α),ds.length=l.length -> (∀ (i:Nat) (h:i<ds.length) (h2:i<l.length),sz l[i]<=Rows.uptoBulk ds[i]) -> (l.map sz).sum<=Rows.uptoBulkAll ds
 | [],[],_,_=>by simp
 | d :: ds,x :: l,h,h2=>by
  have a1:=h2 0 (by simp) (by simp)
  have a2:=qO sz ds l (by simpa using h) fun i hi hi2=>by
   have:=h2 (i+1) (by simp;omega) (by simp;omega);simpa using this
  simp only [List.getElem_cons_zero] at a1;simp only [V1,XR,Rows.uptoBulkAll];omega
 | [],_ :: _,h,_=>by simp at h
 | _ :: _,[],h,_=>by simp at h
theorem mc {α:Type} {P:Program} {t e:TypeId} {r:gw α} {sz:α -> Nat} (ht:P.underlying t=some (.slice e)) (hs:P.cellsOf e=r.size) (hp:0<r.size) (hb:qT P e r sz):qT P t (aJ r) fun l=>(l.map sz).sum+1:=by
 intro H enc w S fuel cs x l hx hl;obtain ⟨A,c,rfl,hlc,hcm,hrow⟩:∃ A c,cs=[.slice A l.length c] /\ l.length<=c /\ c<=9223372036854775807 /\ (0<l.length -> ∃ b o,A=some ⟨b,o,none⟩ /\ S b /\ sP r w S b o l):=hl;rcases DataW.trod_slice ht hx with ⟨h1,rfl⟩|⟨a,len,cap,elems,rest,n,_,h1,rfl,hbase,hlen,hcap,hel,hi,_⟩
 .have:l.length=0:=by simp at h1;omega
  obtain rfl:l=[]:=WO.1 this;simp [Rows.uptoBulk]
 .simp only [List.cons.injEq,Value.slice.injEq,and_true] at h1;obtain ⟨rfl,rfl,rfl⟩:=h1
  have key:=qO sz (elems.map (·.1)) l (by simpa using hel) fun i h1 h2=>by
   have hi1:=hi i h2;have hie:i<elems.length:=(by omega);rw [p0 hie] at hi1;obtain ⟨b,o,e0,hSb,hrw⟩:=hrow (by omega);cases e0;obtain ⟨cs',hc1,hc2⟩:=hrw i h2;rw [Option.bind_eq_some_iff] at hi1;obtain ⟨cs2,hw,ht2⟩:=hi1;obtain ⟨_,hlen2,hcell⟩:=World.cells?_some hw
   have he:cs2=cs':=by
    have hl1:=r.len hc2;apply V3;intro j;by_cases hj:j<P.cellsOf e
    .have hj1:j<cs'.length:=by rw [hl1,<- hs];exact hj
     have hj2:j<cs2.length:=by rw [hlen2];exact hj
     have q1:=hc1 j cs'[j] (p0 hj1);have q2:=hcell j hj;rw [<- q2];rw [p0 hj1,<- q1,Go.Deep.add_add,hs]
     congr 1
     simp [Addr.add,Wv]
    .rw [Vt (by omega),Vt (by rw [hl1];omega)]
   subst he;have:=hb H enc w S n _ _ _ ht2 hc2;simpa using this
  simp only [Rows.uptoBulk];omega
theorem sn {α:Type}:∀ l:List α,(l.map fun _=>1).sum=l.length
 | []=>rfl
 | _ :: l=>by simp only [V1,XR,VN,sn l];omega
theorem nR:qT Tryz.prog 33 (aJ fD) fun l=>(l.map fun _=>1).sum+1:=mc Tryz.underlying33 (by kernel_rfl) (by decide) (GM _ _ _)
theorem Ce:qT Tryz.prog 67 Tu fun g=>((g.cond.map fun _=>1).sum+1)+1:=
 wy (s:=aJ fD) Tryz.underlying67 2 _ rfl (fun l=>(l.map fun _=>1).sum+1) nR 2 1 (by kernel_rfl) (by kernel_rfl) Gd.cond fun w S cs a h=>by
  obtain ⟨cv,rfl,h1,_⟩:=h;exact h1
theorem F4:qT Tryz.prog 69 Tp fun g=>((g.cond.map fun _=>1).sum+1)+1:=
 wy (s:=aJ fD) Tryz.underlying69 3 _ rfl (fun l=>(l.map fun _=>1).sum+1) nR 3 1 (by kernel_rfl) (by kernel_rfl) Ml.cond fun w S cs a h=>by
  obtain ⟨cv,rfl,h1,_⟩:=h;exact h1
theorem Kg {H:Type} {enc:TypeId × Value -> H} {w:World} {fuel:Nat} {V:MV} {m:bl} {x:DataW H × List MemPlace} (h:DataW.trod enc Tryz.prog w 0 (fun _=>true) true fuel 32 V.cells.toList=some x) (hm:Jm w V m) :
  (m.guards.map fun g=>((g.cond.map fun _=>1).sum+1)+1).sum+(m.miles.map fun g=>((g.cond.map fun _=>1).sum+1)+1).sum<=Rows.uptoBulk x.1:=by
 obtain ⟨xs,n,_,rfl,hl,hlen,hf⟩:=DataW.trod_struct Tryz.underlying32 h;have hl10:xs.length=10:=hlen;have h6:=hf 6 _ rfl;have h7:=hf 7 _ rfl;rw [p0 (by omega)] at h6 h7;have b6:=mc (t:=27) Tryz.underlying27 (by kernel_rfl) (by decide) Ce H enc w (fun b=>b<w.heap.size) n [V.guards] xs[6] m.guards h6 hm.guards;have b7:=mc (t:=28) Tryz.underlying28 (by kernel_rfl) (by decide) F4 H enc w (fun b=>b<w.heap.size) n [V.miles] xs[7] m.miles h7 hm.miles;have b:=LQ (l:=xs.map (·.1)) (i:=6) (j:=7) (by omega) (by rw [Ve,p0 (by omega)];rfl) (by rw [Ve,p0 (by omega)];rfl);simp only [] at b6 b7 b;simp only [Rows.uptoBulk];omega
theorem DJ {H:Type} {enc:TypeId × Value -> H} {w:World} {S:Nat -> Prop} {fuel:Nat} {v:Value} {l:List ah} {x:DataW H × List MemPlace} (h:DataW.trod enc Tryz.prog w 0 (fun _=>true) true fuel 33 [v]=some x) (hl:(aJ fD).one w S v l):l.length<=Rows.uptoBulk x.1:=by
 have:(l.map fun _=>1).sum+1<=Rows.uptoBulk x.1:=nR H enc w S fuel [v] x l h hl;rw [sn] at this;omega
theorem xN {α:Type} (f:α -> Nat):∀ l:List α,(l.map fun x=>(f x+1)+1).sum=(l.map f).sum+2 * l.length
 | []=>rfl
 | _ :: l=>by simp only [V1,XR,VN,xN f l];omega
theorem t8 {H:Type} {enc:TypeId × Value -> H} {w:World} {S:Nat -> Prop} {f1 f2:Nat} {V:MV} {m:bl} {v:Value} {l:List ah} {x y:DataW H × List MemPlace} (h1:DataW.trod enc Tryz.prog w 0 (fun _=>true) true f1 32 V.cells.toList=some x) (hm:Jm w V m)
  (h2:DataW.trod enc Tryz.prog w 0 (fun _=>true) true f2 33 [v]=some y) (hl:(aJ fD).one w S v l) (hk:Rows.uptoSmall H [x.1,y.1]=true) :
  m.guards.length<=11000000 /\ m.miles.length<=11000000 /\ l.length+(m.guards.map fun g=>g.cond.length).sum+(m.miles.map fun g=>g.cond.length).sum<=1100000:=by
 have hb:Rows.uptoBulkAll [x.1,y.1]<=1048576:=of_decide_eq_true hk;have a:=Kg h1 hm;have b:=DJ h2 hl;simp only [sn] at a;rw [xN (fun g:Gd=>g.cond.length),xN (fun g:Ml=>g.cond.length)] at a;simp only [Rows.uptoBulkAll] at hb;omega
end
end
end Go.Proofs.YtmmoidfcfjklaaaGreat
