/-
  Parts of the proof: Qtp17, Qtp18, Qtp19, Qtp20, Qtp21, Qtp22, Qtp23, Qtp24.
-/
import Derived.Test.YtiaiihjmmfakdaaGreatDoorQtq6
set_option linter.unusedVariables false
set_option linter.unusedSimpArgs false
set_option linter.defProp false
set_option maxRecDepth 100000
set_option maxHeartbeats 16000000
namespace Go.Proofs.YtiaiihjmmfakdaaGreatDoor
open Go.RowKit
section
section
def L6 (z:Zn) (i:Nat) (r:Int) (k:Nat):Int:=if k=i+1 then bR (bR (z.gaps.getD (i - 1) 0) r+bR (z.gaps.getD i 0) r+1) r else z.gaps.getD (k - 1) 0
instance:Inhabited fr:=⟨⟨0,0⟩⟩
def lm (z:Zn) (i:Nat) (r:Int):Nat -> Zn
 | 0=>⟨[],[]⟩
 | k+1=>if k=i then lm z i r k else ⟨(lm z i r k).cls ++ [z.cls.getD k default],if (lm z i r k).cls.length=0 then (lm z i r k).gaps else (lm z i r k).gaps ++ [L6 z i r k]⟩
theorem uw (z:Zn) (i:Nat) (r:Int):∀ k,(lm z i r k).cls.length=if i<k then k - 1 else k
 | 0=>by simp [lm]
 | k+1=>by
  have h:=uw z i r k;rw [lm];split
  .rename_i e;rw [h,e,Ny (by omega),ND (by omega)];omega
  .rename_i e;rw [NB,N4,h];split<;>split<;>omega
theorem qv (z:Zn) (i:Nat) (r:Int):∀ k,(lm z i r k).gaps.length=(lm z i r k).cls.length - 1
 | 0=>by simp [lm]
 | k+1=>by
  have h:=qv z i r k;rw [lm];split
  .exact h
  .simp only [NB,N4];split
   .rw [h];omega
   .rw [NB,N4,h];omega
theorem AI (z:Zn) (i:Nat) (r:Int) (hi:i<z.cls.length) (hc:z.cls.length<=1000000) (hg:z.gaps.length=z.cls.length - 1):ax Tryz.prog 155 [.agg (ch z),eI (i:Int),eI r] ⟨.agg (ch (lm z i r z.cls.length)),[],0⟩:=by
 refine ax.still (R:=⟨.agg [.osl 0,.osl 1],[(0,some (.row 128 2 ((lm z i r z.cls.length).cls.map cC))),(1,some (.row 3 1 ((lm z i r z.cls.length).gaps.map fun n=>[eI n])))],2⟩) [0,1] ?_ (by simp [cG.frzs,cG.frz,af.gc,AV.frz,AV.frzL,bE,aE.frz]) (by simp [AV.lt,AV.ltL]);refine aa ah Tryz.func155 rfl (by decide) Tryz.ntmps155 Tryz.results155 rfl (jW (by simp [cr,aE.lt,AV.ltL,AV.lt]) (by simp [AV.lt,AV.ltL])) ?_;have ei:IntKind.i64.wrap ((i:Int) - 1)=(i:Int) - 1:=ar (by omega) (by omega)
 repeat' first|refine go ?_|decide|refine sp ?_ ?_<;>intro _
 refine ae (fun st=>∃ k:Nat,k<=z.cls.length /\ st=⟨66,[(1,eI (i:Int)),(2,eI r),(3,.op 0 0 0),(6,.op 1 0 0),(7,.op 2 0 0),(8,eI (k:Int))],[(0,some (.box 60 (ch z))),(1,some (.box 60 [.c (.slice none 0 0),.c (.slice none 0 0)])),(2,some (.box 60 [.osl 3,.osl 4])),(3,some (.row 128 2 ((lm z i r k).cls.map cC))),(4,some (.row 3 1 ((lm z i r k).gaps.map fun n=>[eI n])))],5⟩) (fun st=>z.cls.length - aq st 8)
  ⟨_,((dN 2 0 128 2 (t:=60) (cells:=[.c (.slice none 0 0),.c (.slice none 0 0)]) (by simp [af.gc]) rfl).trans ((dN 2 1 3 1 (t:=60) (cells:=[.osl 3,.c (.slice none 0 0)]) (by simp [af.gc]) rfl).trans (wE (kf @PQ (kf @PR (kf @lm.eq_1 @lm.eq_2)))))),0,Nv _,rfl⟩ ?_
 rintro _ ⟨k,hk,rfl⟩;by_cases hlt:k<z.cls.length
 .have hl1:=uw z i r k;have hl2:=qv z i r k;have hs:=lm.eq_2 z i r k;have hW:(lm z i r k).cls.length<=1000000:=by rw [hl1];split<;>omega
  obtain ⟨x,hx⟩:∃ x,z.cls[k]=x:=⟨_,rfl⟩;have hxg:z.cls.getD k default=x:=by rw [NA,Nq hlt,<- hx];rfl
  have hrx:(z.cls.map cC)[k]?.getD []=cC x:=by simp [hlt,hx]
  rw [hxg] at hs;obtain ⟨o,ho⟩:∃ o,o=lm z i r k:=⟨_,rfl⟩;rw [<- ho] at hs hl1 hl2 hW ⊢;by_cases he:k=i
  .have d1:((k:Int) == (i:Int))=true:=O2.2 (by omega);rw [ND he] at hs
   repeat' first|refine gf (kf @hlt d1) ?_|decide|refine sp ?_ ?_<;>intro _
   all_goals exact rI (wE hs) ⟨k+1,by omega,rfl⟩
  .have d1:((k:Int) == (i:Int))=false:=Oa.2 (by omega);rw [Ny he] at hs;have hcm:((lm z i r (k+1)).cls).map cC=o.cls.map cC ++ [cC x]:=by rw [hs];simp
   by_cases h0:o.cls.length=0
   .have d2:decide ((0:Int)<(o.cls.length:Int))=false:=NE (by omega);have hgm:(lm z i r (k+1)).gaps=o.gaps:=by rw [hs];simp [h0]
    repeat' first|refine ge (kf @hlt (kf d1 d2)) ?_|decide|refine sp ?_ ?_<;>intro _
    refine aD [2,3] [0,2,3,4,5,6] (.two 1 (.exec 7 (.exec 8 (.take 9 (.exec 10 .done)))) 7 (.exec 1 (.exec 8 (.take 9 (.exec 10 .done))))) (by kernel_rfl) (by simp [af.gc]) ?_
    repeat' first|refine gf (kf @hrx @hlt) ?_|decide|refine sp ?_ ?_<;>intro _|(with_reducible apply And.intro)
    all_goals first
     | rfl
     | omega
     | exact rI (wS [0,1,2,6,4] (kf @hcm @hgm)) ⟨k+1,by omega,rfl⟩
   .have d2:decide ((0:Int)<(o.cls.length:Int))=true:=NL (by omega)
    have hk1:1<=k:=by
     rw [hl1] at h0;split at h0<;>omega
    have hgm:(lm z i r (k+1)).gaps.map (fun n=>[eI n])=o.gaps.map (fun n=>[eI n]) ++ [[eI (L6 z i r k)]]:=by rw [hs];simp [h0]
    have ek:IntKind.i64.wrap ((k:Int) - 1)=((k - 1:Nat):Int):=by rw [ar (by omega) (by omega)];omega
    have hkg:k - 1<z.gaps.length:=(by omega);obtain ⟨y,hy⟩:∃ y,z.gaps[k - 1]=y:=⟨_,rfl⟩;have hry:(z.gaps.map fun n=>[eI n])[k - 1]?.getD []=[eI y]:=(by simp [hkg,hy]);by_cases h1:k=i+1
    .have d3:(((k - 1:Nat):Int) == (i:Int))=true:=O2.2 (by omega)
     have hi1:1<=i:=by
      rw [hl1] at h0;split at h0<;>omega
     have ei2:IntKind.i64.wrap ((i:Int) - 1)=((i - 1:Nat):Int):=by rw [ei];omega
     have hig:i - 1<z.gaps.length:=(by omega);obtain ⟨u,hu⟩:∃ u,z.gaps[i - 1]=u:=⟨_,rfl⟩;have hru:(z.gaps.map fun n=>[eI n])[i - 1]?.getD []=[eI u]:=(by simp [hig,hu]);have c1:=lE u r;have c2:=lE y r;have hb1:=rz u r;have hb2:=rz y r;have hb3:=kq r
     have eG:L6 z i r k=bR (bR u r+bR y r+1) r:=by
      rw [L6,ND h1,NA,Nq hig,NA,Nq (by omega),NX,NX,hu];simp only [<- hy,h1,O9]
     rw [eG] at hgm;obtain ⟨p,hp⟩:∃ p,p=bR u r:=⟨_,rfl⟩;obtain ⟨q,hq⟩:∃ q,q=bR y r:=⟨_,rfl⟩;rw [<- hp] at c1 hb1;rw [<- hq] at c2 hb2;rw [<- hp,<- hq] at hgm;have e1:IntKind.i64.wrap (p+q)=p+q:=ar (by omega) (by omega);have e2:IntKind.i64.wrap (p+q+1)=p+q+1:=ar (by omega) (by omega);have c3:=lE (p+q+1) r;have hgl:o.gaps.length<=1000000:=(by omega)
     repeat' first|refine gf (kf @hlt (kf d1 (kf d2 (kf d3 (kf ek (kf ei2 (kf @hkg (kf @hig (kf @hry (kf @hru (kf e1 e2))))))))))) ?_|decide|refine sp ?_ ?_<;>intro _|refine cA c1 ?_|refine cA c2 ?_|refine cA c3 ?_|fail
     refine ⟨rfl,⟨by omega,by omega⟩,?_⟩;refine aD [2,3] [0,2,3,4,5,6] (.two 1 (.exec 7 (.exec 8 (.take 9 (.exec 10 .done)))) 7 (.exec 1 (.exec 8 (.take 9 (.exec 10 .done))))) (by kernel_rfl) (by simp [af.gc]) ?_
     repeat' first|refine gf (kf @hrx @hlt) ?_|decide|refine sp ?_ ?_<;>intro _|(with_reducible apply And.intro)
     all_goals first
      | rfl
      | omega
      | exact rI (wS [0,1,2,8,6] (kf @hcm @hgm)) ⟨k+1,by omega,rfl⟩
    .have d3:(((k - 1:Nat):Int) == (i:Int))=false:=Oa.2 (by omega);have eG:L6 z i r k=y:=(by rw [L6,Ny h1,NA,Nq hkg,NX,hy]);rw [eG] at hgm;have hgl:o.gaps.length<=1000000:=(by omega)
     repeat' first|refine gf (kf @hlt (kf d1 (kf d2 (kf d3 (kf ek (kf @hkg @hry)))))) ?_|decide|refine sp ?_ ?_<;>intro _
     refine ⟨rfl,⟨by omega,by omega⟩,?_⟩;refine aD [2,3] [0,2,3,4,5,6] (.two 1 (.exec 7 (.exec 8 (.take 9 (.exec 10 .done)))) 7 (.exec 1 (.exec 8 (.take 9 (.exec 10 .done))))) (by kernel_rfl) (by simp [af.gc]) ?_
     repeat' first|refine gf (kf @hrx @hlt) ?_|decide|refine sp ?_ ?_<;>intro _|(with_reducible apply And.intro)
     all_goals first
      | rfl
      | omega
      | exact rI (wS [0,1,2,8,6] (kf @hcm @hgm)) ⟨k+1,by omega,rfl⟩
 .obtain rfl:k=z.cls.length:=by omega
  repeat' first|refine gf @hlt ?_|decide|refine sp ?_ ?_<;>intro _
  exact ⟨[3,4],by decide,rfl,by simp [cb,af.gc]⟩
structure ly (N:Nat) (z:Zn):Prop where
 cl:z.cls.length<=N
 ga:z.gaps.length<=N
 at_:∀ x ∈ z.cls,aB x.attrs
def pD (z:Zn) (a:Int) (i:Nat):Zn:=⟨z.cls.set i ⟨bQ (z.cls.getD i default).attrs a,(z.cls.getD i default).const⟩,z.gaps⟩
def Af (a r:Int):Nat -> Zn -> Nat -> Zn
 | 0,z,_=>z
 | n+1,z,i=>
  if z.cls.length<=i then z
  else if bk (z.cls.getD i default).attrs a=false then Af a r n z (i+1)
  else if bQ (z.cls.getD i default).attrs a=0 /\ (z.cls.getD i default).const = -1 then Af a r n (lm (pD z a i) i r z.cls.length) i
  else Af a r n (pD z a i) (i+1)
def dY (z:Zn) (a r:Int):Zn:=if (z.gaps.length:Int)=max ((z.cls.length:Int) - 1) 0 then Af a r z.cls.length z 0 else z
theorem u6 (s i:Int):aB (bQ s i):=cF (kg s i)
theorem pv (z:Zn) (i:Nat) (r:Int):∀ k,k<=z.cls.length -> ∀ x ∈ (lm z i r k).cls,x ∈ z.cls
 | 0,_,x,hx=>by simp [lm] at hx
 | k+1,hk,x,hx=>by
  rw [lm] at hx;split at hx
  .exact pv z i r k (by omega) x hx
  .rcases NK.1 hx with h | h
   .exact pv z i r k (by omega) x h
   .simp only [NR] at h;subst h;rw [NA,Nq (by omega),NX];exact Nt _
theorem zA (z:Zn) (a:Int) (i:Nat):(pD z a i).cls.length=z.cls.length:=by simp [pD]
theorem Fg {z:Zn} (a:Int) (i:Nat) (h:∀ x ∈ z.cls,aB x.attrs):∀ x ∈ (pD z a i).cls,aB x.attrs:=by
 intro x hx;rcases OP hx with h1|h1
 .exact h x h1
 .rw [h1];exact u6 _ _
theorem vc (z:Zn) (i:Nat) (r:Int) (hi:i<z.cls.length):(lm z i r z.cls.length).cls.length=z.cls.length - 1 /\ (lm z i r z.cls.length).gaps.length=z.cls.length - 1 - 1:=by
 have h1:=uw z i r z.cls.length;rw [ND hi] at h1;exact ⟨h1,by rw [qv,h1]⟩
def Na (st:aj):Nat:=match st.tab.get 0 with
 | some (.box _ (.sl _ rows :: _))=>rows.length - aq st 7
 | _=>0
theorem LH (z:Zn) (a r:Int) {N:Nat} (hN:N<=1000000) (hz:ly N z) (ha:0<=a /\ a<31):ax Tryz.prog 124 [.agg (ch z),eI a,eI r] ⟨.agg (ch (dY z a r)),[],0⟩:=by
 have hcl:=hz.cl;refine aa ah Tryz.func124 rfl (by decide) Tryz.ntmps124 Tryz.results124 rfl (⟨fun id o h=>(by cases h),⟨trivial,trivial,trivial⟩⟩) ?_;have ew:IntKind.i64.wrap ((z.cls.length:Int) - 1)=(z.cls.length:Int) - 1:=ar (by omega) (by omega);by_cases hg:(z.gaps.length:Int)=max ((z.cls.length:Int) - 1) 0
 .have d0:((z.gaps.length:Int) != max ((z.cls.length:Int) - 1) 0)=false:=by simp [hg]
  have hD:dY z a r=Af a r z.cls.length z 0:=ND hg;rw [hD];obtain ⟨Q,hQ⟩:∃ Q,Q=Af a r z.cls.length z 0:=⟨_,rfl⟩;rw [<- hQ]
  repeat' first|refine ge (kf ew d0) ?_|decide|refine sp ?_ ?_<;>intro _
  refine ae (fun st=>∃ (n i:Nat) (y:Zn),(y.cls.length<=i+n /\ i<=y.cls.length /\ ly N y /\ y.gaps.length=y.cls.length - 1 /\ Af a r n y i=Q) /\ st=⟨75,[(1,eI a),(2,eI r),(3,.op 0 0 0),(6,.op 1 0 0),(7,eI (i:Int))],[(0,some (.box 60 (ch y))),(1,some (.box 60 [.c (.slice none 0 0),.c (.slice none 0 0)]))],2⟩) Na ⟨_,wC,z.cls.length,0,z,⟨by omega,Nv _,hz,by omega,hQ.symm⟩,rfl⟩ ?_;rintro _ ⟨n,i,y,⟨hn,hi,hy,hyg,hF⟩,rfl⟩;have hyl:=hy.cl
  have mu0:∀ (i':Nat) (y':Zn),Na ⟨75,[(1,eI a),(2,eI r),(3,.op 0 0 0),(6,.op 1 0 0),(7,eI (i':Int))],[(0,some (.box 60 (ch y'))),(1,some (.box 60 [.c (.slice none 0 0),.c (.slice none 0 0)]))],2⟩=y'.cls.length - i':=fun i' y'=>by
   simp [Na,aq,aj.get,aX,af.gc]
  by_cases hlt:i<y.cls.length
  .obtain ⟨x,hx⟩:∃ x,y.cls[i]=x:=⟨_,rfl⟩;have hxg:y.cls.getD i default=x:=by rw [NA,Nq hlt,<- hx];rfl
   have hrx:(y.cls.map cC)[i]?.getD []=cC x:=(by simp [hlt,hx]);have hxo:aB x.attrs:=hy.at_ x (hx ▸ Nt hlt);have hH:=cL x.attrs a hxo;have hP:=qR x.attrs a false hxo ha.1 ha.2;obtain ⟨n,rfl⟩:∃ n',n=n'+1:=⟨n - 1,by omega⟩;rw [Af,Ny (by omega),hxg] at hF
   cases hb:bk x.attrs a with
   | false=>
    rw [hb,ND rfl] at hF;rw [hb] at hH
    repeat' first|refine gf (kf @hrx @hlt) ?_|decide|refine sp ?_ ?_<;>intro _|refine cA hH ?_|fail
    all_goals exact fa wC ⟨n,i+1,y,⟨by omega,by omega,hy,hyg,hF⟩,rfl⟩ (by rw [mu0,mu0];omega)
   | true=>
    rw [hb,Ny (by simp)] at hF;rw [hb] at hH;rw [Ny (by simp)] at hP;obtain ⟨v,hv⟩:∃ v,v=bQ x.attrs a:=⟨_,rfl⟩;rw [<- hv] at hF hP;have hset:(y.cls.map cC).set i [eI v,eI x.const]=(pD y a i).cls.map cC:=(by rw [pD,hxg,<- hv,Pw]);have hdl:=zA y a i
    repeat' first|refine ge (kf @hrx @hlt) ?_|decide|refine sp ?_ ?_<;>intro _
    refine aw hH ?_
    repeat' first|refine ge (kf @hrx @hlt) ?_|decide|refine sp ?_ ?_<;>intro _
    refine ⟨rfl,⟨by omega,by omega⟩,?_⟩;refine aw hP ?_;have h3:i<(pD y a i).cls.length:=(by omega)
    have hr3:((pD y a i).cls.map cC)[i]?.getD []=[eI v,eI x.const]:=by
     rw [<- hset];simp [hlt]
    have hdo:=Fg a i hy.at_;have hdg:(pD y a i).gaps=y.gaps:=rfl;have hdz:ch (pD y a i)=[.sl 2 ((pD y a i).cls.map cC),sI y.gaps]:=rfl;by_cases h0:v=0 /\ x.const = -1
    .have b1:(v == 0)=true:=O2.2 h0.1;have b2:(x.const == -1)=true:=O2.2 h0.2;rw [ND h0,<- hdl] at hF;have hW:=AI (pD y a i) i r h3 (by omega) (by rw [hdg,hdl];exact hyg);obtain ⟨w1,w2⟩:=vc (pD y a i) i r h3;have w3:=pv (pD y a i) i r _ (Nz _);obtain ⟨W,hWe⟩:∃ W,W=lm (pD y a i) i r (pD y a i).cls.length:=⟨_,rfl⟩;rw [<- hWe] at hF hW w1 w2 w3
     repeat' first|refine ge (kf @hrx (kf @hlt (kf @hset (kf h3 (kf hr3 (kf b1 b2)))))) ?_|decide|refine sp ?_ ?_<;>intro _
     refine nv [3] (R:=⟨.agg (ch W),[],0⟩) ?_ ?_ ?_
     .repeat' first|decide|refine go ?_
      exact hW
     .repeat' first|decide|refine go ?_
      left;simp [pi,yS,bV,dk]
     .repeat' first|refine ge @bK ?_|decide|refine sp ?_ ?_<;>intro _
      exact fa wC ⟨n,i,W,⟨by omega,by omega,⟨by omega,by omega,fun u hu=>hdo u (w3 u hu)⟩,by omega,hF⟩,rfl⟩ (by rw [mu0,mu0];omega)
    .rw [Ny h0] at hF;by_cases h1:v=0
     .have b1:(v == 0)=true:=O2.2 h1;have b2:(x.const == -1)=false:=Oa.2 fun e=>h0 ⟨h1,e⟩
      repeat' first|refine ge (kf @hrx (kf @hlt (kf @hset (kf h3 (kf hr3 (kf b1 b2)))))) ?_|decide|refine sp ?_ ?_<;>intro _
      refine fa ((ko _ 3).trans ?_) ⟨n,i+1,pD y a i,⟨by omega,by omega,⟨by omega,by rw [hdg];omega,hdo⟩,by rw [hdg,hdl];exact hyg,hF⟩,rfl⟩ (by rw [mu0,mu0];omega);simp only [fU,eY,bE,af.gc,aE.frz,AV.frz,AV.frzL,↓reduceIte,Nat.reduceEqDiff,N9,PD,reduceCtorEq,Px];exact (wE @hdz)
     .have b1:(v == 0)=false:=Oa.2 h1
      repeat' first|refine ge (kf @hrx (kf @hlt (kf @hset (kf h3 (kf hr3 b1))))) ?_|decide|refine sp ?_ ?_<;>intro _
      refine fa ((ko _ 3).trans ?_) ⟨n,i+1,pD y a i,⟨by omega,by omega,⟨by omega,by rw [hdg];omega,hdo⟩,by rw [hdg,hdl];exact hyg,hF⟩,rfl⟩ (by rw [mu0,mu0];omega);simp only [fU,eY,bE,af.gc,aE.frz,AV.frz,AV.frzL,↓reduceIte,Nat.reduceEqDiff,N9,PD,reduceCtorEq,Px];exact (wE @hdz)
  .obtain rfl:i=y.cls.length:=by omega
   have hq:Q=y:=by
    cases n with
    | zero=>exact hF.symm
    | succ n=>rw [Af,ND (Nz _)] at hF;exact hF.symm
   rw [hq]
   repeat' first|refine gf @hlt ?_|decide|refine sp ?_ ?_<;>intro _
   all_goals exact tl rfl
 .have d0:((z.gaps.length:Int) != max ((z.cls.length:Int) - 1) 0)=true:=by simp [hg]
  have hD:dY z a r=z:=Ny hg;rw [hD]
  repeat' first|refine ge (kf ew d0) ?_|decide|refine sp ?_ ?_<;>intro _
  exact tl rfl
end
end
section
section
theorem sk (l:List Int) (r:Int) (hl:l.length<=1000000):ax Tryz.prog 193 [sI l,eI r] (ic 3 1 (l.map fun n=>[eI (bR n r)])):=by
 refine aa ah Tryz.func193 rfl (by decide) Tryz.ntmps193 Tryz.results193 rfl (cB _ _ _) ?_
 repeat' first|refine go ?_|decide|refine sp ?_ ?_<;>intro _
 refine ae (fun st=>∃ k:Nat,k<=l.length /\ st=⟨23,[(0,sI l),(1,eI r),(5,.osl 0),(6,eI (k:Int))],[(0,some (.row 3 1 ((l.take k).map fun n=>[eI (bR n r)])))],1⟩) (fun st=>l.length - aq st 6) ⟨_,((aR 5 3 1 (by simp only [ia,aj.get,aX,aj.put,↓reduceIte,reduceCtorEq,Nat.reduceLT,Nat.reduceEqDiff,Nat.reduceAdd,Nat.reduceLeDiff,eq_self,implies_true,NJ,N3])).trans (wS [0] @NJ)),0,Nv _,rfl⟩ ?_;rintro _ ⟨k,hk,rfl⟩;by_cases hlt:k<l.length
 .have et:(l.take (k+1)).map (fun n=>[eI (bR n r)])=(l.take k).map (fun n=>[eI (bR n r)]) ++ [[eI (bR l[k] r)]]:=eh _ _ hlt;obtain ⟨x,hx⟩:∃ x,x=l[k]:=⟨_,rfl⟩;have hrow:(l.map fun n=>[eI n])[k]?.getD []=[eI x]:=by rw [hx];simp [hlt]
  rw [<- hx] at et;have hc:=lE x r;have htl:(l.take k).length<=1000000:=by rw [NF];omega
  repeat' first|refine gf (kf @hrow @hlt) ?_|decide|refine sp ?_ ?_<;>intro _|refine cA hc ?_|(with_reducible apply And.intro)
  all_goals first
   | rfl
   | omega
   | exact rI (wS [2] et) ⟨k+1,by omega,rfl⟩
 .obtain rfl:k=l.length:=by omega
  repeat' first|refine gf (kf @hlt @NG) ?_|decide|refine sp ?_ ?_<;>intro _
  exact aO (by simp [af.gc])
def mE (z:Zn) (r:Int):List Int:=z.gaps.map fun n=>bR n (r - 1)
def gU (z:Zn) (a:Int) (at_:Nat) (r:Int) (ahead:Nat) (come:List Int) (behind:Nat):Zn:=⟨z.cls.take at_ ++ ⟨cY 0 a,-1⟩ :: z.cls.drop at_,(mE z r).take ahead ++ (come ++ (mE z r).drop behind)⟩
def lT (z:Zn):cG:=⟨.agg [.osl 0,.osl 1],[(0,some (.row 128 2 (z.cls.map cC))),(1,some (.row 3 1 (z.gaps.map fun n=>[eI n])))],2⟩
theorem Aq (z:Zn):(lT z).Ok:=jW (by simp [lT,cr,aE.lt,AV.ltL,AV.lt]) (by simp [lT,AV.lt,AV.ltL])
theorem pr (z:Zn) (a:Int) (at_:Nat) (r:Int) (ahead:Nat) (come:List Int) (behind:Nat) {N:Nat} (hN:N<=1000000) (hz:ly N z) (ha:0<=a /\ a<31) (hat:at_<=z.cls.length) (hah:ahead<=z.gaps.length) (hbe:behind<=z.gaps.length) (hco:come.length<=10) (hr:-1000000<=r /\ r<=1000000) :
  ax Tryz.prog 152 [.agg (ch z),eI a,eI (at_:Int),eI r,eI (ahead:Int),sI come,eI (behind:Int)] (lT (gU z a at_ r ahead come behind)):=by
 refine xX Tryz.func152 rfl (by decide) Tryz.ntmps152 Tryz.results152 rfl (Aq _) ?_;have er:IntKind.i64.wrap (r - 1)=r - 1:=ar (by omega) (by omega);have hcl:=hz.cl;have hga:=hz.ga;have hCl:=sk z.gaps (r - 1) (by omega);have hP:=qR 0 a true (by simp [aB]) ha.1 ha.2;rw [ND rfl] at hP;have hgl:(mE z r).length=z.gaps.length:=by simp [mE]
 have hgm:(z.gaps.map fun n=>[eI (bR n (r - 1))])=(mE z r).map fun n=>[eI n]:=by simp [mE]
 rw [hgm] at hCl;have hClT:=ax.still [0] hCl (r:=sI (mE z r)) (by simp [cG.frzs,cG.frz,ic,af.gc,AV.frz]) (by simp [AV.lt]);have f0:List.drop (Int.toNat 0) (List.take at_ (z.cls.map cC))=(z.cls.take at_).map cC:=by simp
 have f1:List.drop at_ (List.take z.cls.length (z.cls.map cC))=(z.cls.drop at_).map cC:=by
  rw [NT (by simp)];simp
 have f2:List.drop (Int.toNat 0) (List.take ahead ((mE z r).map fun n=>[eI n]))=((mE z r).take ahead).map fun n=>[eI n]:=by simp
 have f3:List.drop behind (List.take z.gaps.length ((mE z r).map fun n=>[eI n]))=((mE z r).drop behind).map fun n=>[eI n]:=by
  rw [NT (by simp [hgl])];simp
 have l1:(z.cls.take at_).length<=1000000:=by rw [NF];omega
 have l2:(z.cls.drop at_).length<=1000000:=by rw [Ov];omega
 have l3:((mE z r).take ahead).length<=1000000:=by rw [NF];omega
 have l4:((mE z r).drop behind).length<=1000000:=by rw [Ov];omega
 have k2:(z.cls.take at_ ++ [(⟨cY 0 a,-1⟩:fr)]).length<=1000001:=by rw [NB];simp only [N4];omega
 have k3:((mE z r).take ahead ++ come).length<=1000010:=by rw [NB];omega
 have m2:(z.cls.take at_ ++ [(⟨cY 0 a,-1⟩:fr)]).map cC=(z.cls.take at_).map cC ++ [[eI (cY 0 a),eI (-1)]]:=by simp
 have m3:(gU z a at_ r ahead come behind).cls.map cC=(z.cls.take at_ ++ [(⟨cY 0 a,-1⟩:fr)]).map cC ++ (z.cls.drop at_).map cC:=by simp [gU]
 have m4:(((mE z r).take ahead ++ come).map fun n=>[eI n])=(((mE z r).take ahead).map fun n=>[eI n]) ++ come.map fun n=>[eI n]:=by simp
 have m5:((gU z a at_ r ahead come behind).gaps.map fun n=>[eI n])=(((mE z r).take ahead ++ come).map fun n=>[eI n]) ++ ((mE z r).drop behind).map fun n=>[eI n]:=by simp [gU]
 refine jY (fun st=>st=⟨66,[(1,eI a),(2,eI (at_:Int)),(3,eI r),(4,eI (ahead:Int)),(5,sI come),(6,eI (behind:Int)),(7,.op 0 0 0),(14,.op 1 0 0)],[(0,some (.box 60 (ch z))),(1,some (.box 60 [.c (.slice none 0 0),.c (.slice none 0 0)]))],2⟩) (ls ah ?_) ?_
 .repeat' first|refine gq ?_|decide|refine sp ?_ ?_<;>intro _
  exact jN wC rfl
 rintro _ rfl;refine jY (fun st=>st=⟨66,[(1,eI a),(2,eI (at_:Int)),(3,eI r),(4,eI (ahead:Int)),(5,sI come),(6,eI (behind:Int)),(7,.op 0 0 0),(14,.op 1 0 0),(15,.op 2 0 0)],[(0,some (.box 60 (ch z))),(1,some (.box 60 [.c (.slice none 0 0),.c (.slice none 0 0)])),(2,some (.box 60 [.osl 3,.osl 4])),(3,some (.row 128 2 ([]))),(4,some (.row 3 1 ([])))],5⟩) (ls ah ?_) ?_
 .repeat' first|refine gq ?_|decide|refine sp ?_ ?_<;>intro _
  exact jN ((dN 2 0 128 2 (t:=60) (cells:=[.c (.slice none 0 0),.c (.slice none 0 0)]) (by simp [af.gc]) rfl).trans ((dN 2 1 3 1 (t:=60) (cells:=[.osl 3,.c (.slice none 0 0)]) (by simp [af.gc]) rfl).trans (wE (kf @PQ @PR)))) rfl
 rintro _ rfl;refine jY (fun st=>st=⟨66,[(1,eI a),(2,eI (at_:Int)),(3,eI r),(4,eI (ahead:Int)),(5,sI come),(6,eI (behind:Int)),(7,.op 0 0 0),(14,.op 1 0 0),(15,.op 2 0 0)],[(0,some (.box 60 (ch z))),(1,some (.box 60 [.c (.slice none 0 0),.c (.slice none 0 0)])),(2,some (.box 60 [.osl 3,.osl 4])),(3,some (.row 128 2 ((z.cls.take at_).map cC))),(4,some (.row 3 1 ([])))],5⟩) (ls ah ?_) ?_
 .repeat' first|refine go ?_|decide|refine sp ?_ ?_<;>intro _
  refine aD [2,3] [0,2,3,4,5] (.exec 1 (.exec 6 (.take 7 (.exec 8 .done)))) (by kernel_rfl) (by simp [af.gc]) ?_
  repeat' first|refine gf (kf @hat f0) ?_|decide|refine sp ?_ ?_<;>intro _|(with_reducible apply And.intro)
  all_goals first
   | rfl
   | omega
   | exact jN (wR [0,1,2,5,4]) rfl
 rintro _ rfl;refine jY (fun st=>st=⟨66,[(1,eI a),(2,eI (at_:Int)),(3,eI r),(4,eI (ahead:Int)),(5,sI come),(6,eI (behind:Int)),(7,.op 0 0 0),(14,.op 1 0 0),(15,.op 2 0 0)],[(0,some (.box 60 (ch z))),(1,some (.box 60 [.c (.slice none 0 0),.c (.slice none 0 0)])),(2,some (.box 60 [.osl 3,.osl 4])),(3,some (.row 128 2 ((z.cls.take at_ ++ [(⟨cY 0 a,-1⟩:fr)]).map cC))),(4,some (.row 3 1 ([])))],5⟩) (ls ah ?_) ?_
 .repeat' first|refine go ?_|decide|refine sp ?_ ?_<;>intro _
  refine aD [2,3] [0,2] (.two 1 (.exec 3 (.take 4 (.exec 5 (.exec 6 (.take 7 (.exec 8 .done)))))) 3 (.take 4 (.two 1 (.exec 5 (.exec 6 (.take 7 (.exec 8 .done)))) 5 (.exec 1 (.exec 6 (.take 7 (.exec 8 .done))))))) (by kernel_rfl) (by simp [af.gc]) ?_
  repeat' first|refine gq ?_|decide|refine sp ?_ ?_<;>intro _|refine cA hP ?_|(with_reducible apply And.intro)
  all_goals first
   | rfl
   | omega
   | exact jN (wS [0,1,2,6,4] m2) rfl
 rintro _ rfl;refine jY (fun st=>st=⟨66,[(1,eI a),(2,eI (at_:Int)),(3,eI r),(4,eI (ahead:Int)),(5,sI come),(6,eI (behind:Int)),(7,.op 0 0 0),(14,.op 1 0 0),(15,.op 2 0 0)],[(0,some (.box 60 (ch z))),(1,some (.box 60 [.c (.slice none 0 0),.c (.slice none 0 0)])),(2,some (.box 60 [.osl 3,.osl 4])),(3,some (.row 128 2 ((gU z a at_ r ahead come behind).cls.map cC))),(4,some (.row 3 1 ([])))],5⟩) (ls ah ?_) ?_
 .repeat' first|refine go ?_|decide|refine sp ?_ ?_<;>intro _
  refine aD [2,3] [0,2,3,4,5] (.exec 1 (.exec 6 (.take 7 (.exec 8 .done)))) (by kernel_rfl) (by simp [af.gc]) ?_
  repeat' first|refine gf (kf @hat f1) ?_|decide|refine sp ?_ ?_<;>intro _|(with_reducible apply And.intro)
  all_goals first
   | rfl
   | omega
   | exact jN (wS [0,1,2,5,4] m3) rfl
 rintro _ rfl;refine jY (fun st=>st=⟨66,[(1,eI a),(2,eI (at_:Int)),(3,eI r),(4,eI (ahead:Int)),(5,sI come),(6,eI (behind:Int)),(7,.op 0 0 0),(14,.op 1 0 0),(15,.op 2 0 0),(16,sI (mE z r))],[(0,some (.box 60 (ch z))),(1,some (.box 60 [.c (.slice none 0 0),.c (.slice none 0 0)])),(2,some (.box 60 [.osl 3,.osl 4])),(3,some (.row 128 2 ((gU z a at_ r ahead come behind).cls.map cC))),(4,some (.row 3 1 ([])))],5⟩) (ls ah ?_) ?_
 .repeat' first|refine gf er ?_|decide|refine sp ?_ ?_<;>intro _|refine cA hClT ?_|fail
  all_goals exact jN wC rfl
 rintro _ rfl;refine jY (fun st=>st=⟨66,[(1,eI a),(2,eI (at_:Int)),(3,eI r),(4,eI (ahead:Int)),(5,sI come),(6,eI (behind:Int)),(7,.op 0 0 0),(14,.op 1 0 0),(15,.op 2 0 0),(16,sI (mE z r))],[(0,some (.box 60 (ch z))),(1,some (.box 60 [.c (.slice none 0 0),.c (.slice none 0 0)])),(2,some (.box 60 [.osl 3,.osl 4])),(3,some (.row 128 2 ((gU z a at_ r ahead come behind).cls.map cC))),(4,some (.row 3 1 (((mE z r).take ahead).map fun n=>[eI n])))],5⟩) (ls ah ?_) ?_
 .repeat' first|refine go ?_|decide|refine sp ?_ ?_<;>intro _
  refine aD [2,4] [0,2,3,4] (.exec 1 (.exec 5 (.take 6 (.exec 7 .done)))) (by kernel_rfl) (by simp [af.gc]) ?_
  repeat' first|refine gf (kf @hah (kf @hgl f2)) ?_|decide|refine sp ?_ ?_<;>intro _|(with_reducible apply And.intro)
  all_goals first
   | rfl
   | omega
   | exact jN (wR [0,1,2,3,5]) rfl
 rintro _ rfl;refine jY (fun st=>st=⟨66,[(1,eI a),(2,eI (at_:Int)),(3,eI r),(4,eI (ahead:Int)),(5,sI come),(6,eI (behind:Int)),(7,.op 0 0 0),(14,.op 1 0 0),(15,.op 2 0 0),(16,sI (mE z r))],[(0,some (.box 60 (ch z))),(1,some (.box 60 [.c (.slice none 0 0),.c (.slice none 0 0)])),(2,some (.box 60 [.osl 3,.osl 4])),(3,some (.row 128 2 ((gU z a at_ r ahead come behind).cls.map cC))),(4,some (.row 3 1 (((mE z r).take ahead ++ come).map fun n=>[eI n])))],5⟩) (ls ah ?_) ?_
 .repeat' first|refine gq ?_|decide|refine sp ?_ ?_<;>intro _|(with_reducible apply And.intro)
  all_goals first
   | rfl
   | omega
   | exact jN (wS [0,1,2,3,5] m4) rfl
 rintro _ rfl;refine jY (fun st=>st=⟨66,[(1,eI a),(2,eI (at_:Int)),(3,eI r),(4,eI (ahead:Int)),(5,sI come),(6,eI (behind:Int)),(7,.op 0 0 0),(14,.op 1 0 0),(15,.op 2 0 0),(16,sI (mE z r))],[(0,some (.box 60 (ch z))),(1,some (.box 60 [.c (.slice none 0 0),.c (.slice none 0 0)])),(2,some (.box 60 [.osl 3,.osl 4])),(3,some (.row 128 2 ((gU z a at_ r ahead come behind).cls.map cC))),(4,some (.row 3 1 ((gU z a at_ r ahead come behind).gaps.map fun n=>[eI n])))],5⟩) (ls ah ?_) ?_
 .repeat' first|refine go ?_|decide|refine sp ?_ ?_<;>intro _
  refine aD [2,4] [0,2,3,4] (.exec 1 (.exec 5 (.take 6 (.exec 7 .done)))) (by kernel_rfl) (by simp [af.gc]) ?_
  repeat' first|refine gf (kf @hbe (kf @hgl f3)) ?_|decide|refine sp ?_ ?_<;>intro _|(with_reducible apply And.intro)
  all_goals first
   | rfl
   | omega
   | exact jN (wS [0,1,2,3,5] m5) rfl
 rintro _ rfl;refine ls ah ?_
 repeat' first|refine gq ?_|decide|refine sp ?_ ?_<;>intro _
 all_goals exact ⟨[3,4],by decide,rfl,by simp [cb,lT,af.gc]⟩
theorem jU (z:Zn):(lT z).r.plain /\ (lT z).tab.plain:=by
 refine ⟨⟨trivial,trivial,trivial⟩,?_⟩;simp only [lT];refine ⟨fun row hr av ha=>?_,fun row hr av ha=>?_,trivial⟩
 .obtain ⟨x,_,rfl⟩:=NC.1 hr;simp at ha;rcases ha with rfl|rfl<;>trivial
 .obtain ⟨x,_,rfl⟩:=NC.1 hr;simp at ha;subst ha;trivial
def zn (z:Zn) (a:Int) (i:Nat) (r:Int):Zn:=⟨z.cls.set i ⟨cY (z.cls.getD i default).attrs a,(z.cls.getD i default).const⟩,mE z r⟩
theorem L5 (z:Zn) (a:Int) (i:Nat) (r:Int) {N:Nat} (hN:N<=1000000) (hz:ly N z) (ha:0<=a /\ a<31) (hi:i<z.cls.length) (hr:-1000000<=r /\ r<=1000000):ax Tryz.prog 153 [.agg (ch z),eI a,eI (i:Int),eI r] ⟨.agg (ch (zn z a i r)),[],0⟩:=by
 refine ax.still (R:=lT (zn z a i r)) [0,1] ?_ (by simp [lT,cG.frzs,cG.frz,af.gc,AV.frz,AV.frzL,bE,aE.frz]) (by simp [AV.lt,AV.ltL]);refine aa ah Tryz.func153 rfl (by decide) Tryz.ntmps153 Tryz.results153 rfl (Aq _) ?_;have er:IntKind.i64.wrap (r - 1)=r - 1:=ar (by omega) (by omega);have hcl:=hz.cl;have hga:=hz.ga;obtain ⟨x,hx⟩:∃ x,z.cls[i]=x:=⟨_,rfl⟩;have hxg:z.cls.getD i default=x:=by rw [NA,Nq hi,<- hx];rfl
 have hrx:(z.cls.map cC)[i]?.getD []=cC x:=by simp [hi,hx]
 have hxo:aB x.attrs:=hz.at_ x (hx ▸ Nt hi);have hP:=qR x.attrs a true hxo ha.1 ha.2;rw [ND rfl] at hP;have hCl:=sk z.gaps (r - 1) (by omega);have hgm:(z.gaps.map fun n=>[eI (bR n (r - 1))])=(zn z a i r).gaps.map fun n=>[eI n]:=by simp [zn,mE]
 rw [hgm] at hCl;have hset:(z.cls.map cC).set i [eI (cY x.attrs a),eI x.const]=(zn z a i r).cls.map cC:=by rw [zn,hxg,Pw]
 repeat' first|refine ge (kf @hrx hi) ?_|decide|refine sp ?_ ?_<;>intro _
 refine ⟨rfl,⟨by omega,by omega⟩,?_⟩;refine aw hP ?_
 repeat' first|refine ge (kf @hrx (kf hi (kf @hset er))) ?_|decide|refine sp ?_ ?_<;>intro _
 refine ce hCl (.inr dT) ?_
 repeat' first|refine go ?_|decide|refine sp ?_ ?_<;>intro _
 exact ⟨[3,4],by decide,rfl,by simp [cb,lT,af.gc]⟩
def ye (st:aj) (j:Nat):Nat:=match st.get j with
 | .c (.int _ k)=>(k+1).toNat
 | _=>0
def pc (z:Zn) (a r:Int) (M k:Nat):List Zn:=(List.range k).map fun (j:Nat)=>gU z a 0 r 0 [((M - j:Nat):Int)] 0
def jZ (z:Zn) (a r:Int) (i j:Nat):List Zn:=zn z a i r :: ((rE (z.gaps.getD i 0) r).take j).map fun p=>gU z a (i+1) r i [p.1,p.2] (i+1)
def ik (z:Zn) (a r:Int):Nat -> List Zn
 | 0=>[]
 | i+1=>ik z a r i ++ (if i+1<z.cls.length then jZ z a r i (rE (z.gaps.getD i 0) r).length else [zn z a i r])
def p6 (z:Zn) (a r:Int) (k:Nat):List Zn:=(List.range k).map fun (j:Nat)=>gU z a z.cls.length r (z.cls.length - 1) [(j:Int)] (z.cls.length - 1)
def ii (z:Zn) (a r:Int):List Zn:=
 if r<1 \/ a<0 \/ 30<a \/ (z.gaps.length:Int) ≠ max ((z.cls.length:Int) - 1) 0 then []
 else if z.cls.any (fun x=>bk x.attrs a)=true then []
 else if z.cls.length=0 then [gU z a 0 r 0 [] 0]
 else pc z a r (cj (r - 1)).toNat ((cj (r - 1)).toNat+1) ++ ik z a r z.cls.length ++ p6 z a r ((cj (r - 1)).toNat+1)
theorem qp (z:Zn) (a r:Int) (M k:Nat):(pc z a r M k).length=k:=by simp [pc]
theorem u1 (z:Zn) (a r:Int) (k:Nat):(p6 z a r k).length=k:=by simp [p6]
theorem qk (z:Zn) (a r:Int):∀ i,(ik z a r i).length<=i * (1+((cj (r - 1)).toNat+1) * ((cj (r - 1)).toNat+1))
 | 0=>by simp [ik]
 | i+1=>by
  have h1:=qk z a r i;have h2:=xf (z.gaps.getD i 0) r;rw [ik,NB,PS];split
  .simp only [jZ,NZ,NI,NG];omega
  .simp only [N4];omega
theorem KW {r:Int} (h:r<=4):(cj (r - 1)).toNat<=7:=by
 have h0:min (r - 1).toNat 20<=3:=by omega
 have h1:(2:Nat) ^ (min (r - 1).toNat 20)<=2 ^ 3:=Od (by omega) h0;have h2:((2 ^ (min (r - 1).toNat 20):Nat):Int)=(2:Int) ^ (min (r - 1).toNat 20):=by simp
 unfold cj;omega
theorem H0 (z:Zn) (a r:Int) {N:Nat} (hN:N<=1000) (hz:ly N z) (hr:-100000<=r /\ r<=4):ax Tryz.prog 123 [.agg (ch z),eI a,eI r] ⟨.sl 2 ((ii z a r).map ch),[],0⟩:=by
 refine fc 60 ?_;refine aM ah Tryz.func123 rfl (by decide) Tryz.ntmps123 Tryz.results123 rfl ?_;have hcl:=hz.cl;have hga:=hz.ga;have er:IntKind.i64.wrap (r - 1)=r - 1:=ar (by omega) (by omega);have ew:IntKind.i64.wrap ((z.cls.length:Int) - 1)=(z.cls.length:Int) - 1:=ar (by omega) (by omega);by_cases hbad:r<1 \/ a<0 \/ 30<a \/ (z.gaps.length:Int) ≠ max ((z.cls.length:Int) - 1) 0
 .have hP:ii z a r=[]:=ND hbad;rw [hP];by_cases h1:r<1
  .have d1:decide (r<1)=true:=NL h1
   repeat' first|refine gf (kf d1 ew) ?_|decide|refine sp ?_ ?_<;>intro _
   all_goals exact ca (gO rfl)
  .have d1:decide (r<1)=false:=NE h1;by_cases h2:a<0
   .have d2:decide (a<0)=true:=NL h2
    repeat' first|refine gf (kf d1 (kf d2 ew)) ?_|decide|refine sp ?_ ?_<;>intro _
    all_goals exact ca (gO rfl)
   .have d2:decide (a<0)=false:=NE h2;by_cases h3:30<a
    .have d3:decide (30<a)=true:=NL h3
     repeat' first|refine gf (kf d1 (kf d2 (kf d3 ew))) ?_|decide|refine sp ?_ ?_<;>intro _
     all_goals exact ca (gO rfl)
    .have d3:decide (30<a)=false:=NE h3;have d4:((z.gaps.length:Int) != max ((z.cls.length:Int) - 1) 0)=true:=bne_iff_ne.2 (by omega)
     repeat' first|refine gf (kf d1 (kf d2 (kf d3 (kf d4 ew)))) ?_|decide|refine sp ?_ ?_<;>intro _
     all_goals exact ca (gO rfl)
 .have d1:decide (r<1)=false:=NE (by omega);have d2:decide (a<0)=false:=NE (by omega);have d3:decide (30<a)=false:=NE (by omega);have d4:((z.gaps.length:Int) != max ((z.cls.length:Int) - 1) 0)=false:=bne_eq_false_iff_eq.2 (by omega);have hP0:ii z a r=if z.cls.any (fun x=>bk x.attrs a)=true then [] else if z.cls.length=0 then [gU z a 0 r 0 [] 0] else pc z a r (cj (r - 1)).toNat ((cj (r - 1)).toNat+1) ++ ik z a r z.cls.length ++ p6 z a r ((cj (r - 1)).toNat+1):=Ny hbad
  repeat' first|refine gf (kf d1 (kf d2 (kf d3 (kf d4 ew)))) ?_|decide|refine sp ?_ ?_<;>intro _
  refine ae (fun st=>∃ i:Nat,(i<=z.cls.length /\ (z.cls.take i).any (fun x=>bk x.attrs a)=false) /\ st=⟨148,[(1,eI a),(2,eI r),(3,.op 0 0 0),(7,eI (z.cls.length:Int)),(8,eI (i:Int))],[(0,some (.box 60 (ch z)))],1⟩) (fun st=>z.cls.length - aq st 8) ⟨_,wC,0,⟨Nv _,rfl⟩,rfl⟩ ?_;rintro _ ⟨i,⟨hi,hany⟩,rfl⟩;by_cases hlt:i<z.cls.length
  .obtain ⟨x,hx⟩:∃ x,z.cls[i]=x:=⟨_,rfl⟩;have hrx:(z.cls.map cC)[i]?.getD []=cC x:=(by simp [hlt,hx]);have hxo:aB x.attrs:=hz.at_ x (hx ▸ Nt hlt);have hH:=cL x.attrs a hxo;have hn:(z.cls.take (i+1)).any (fun x=>bk x.attrs a)=bk x.attrs a:=by rw [Ns hlt,List.any_append,hany,hx];simp
   cases hb:bk x.attrs a with
   | true=>
    have hall:z.cls.any (fun x=>bk x.attrs a)=true:=List.any_eq_true.2 ⟨x,hx ▸ Nt hlt,hb⟩;rw [hP0,ND hall];rw [hb] at hH
    repeat' first|refine gf (kf @hrx @hlt) ?_|decide|refine sp ?_ ?_<;>intro _|refine cA hH ?_|fail
    all_goals exact ca (gO rfl)
   | false=>
    rw [hb] at hH hn
    repeat' first|refine gf (kf @hrx @hlt) ?_|decide|refine sp ?_ ?_<;>intro _|refine cA hH ?_|fail
    all_goals exact rI wC ⟨i+1,⟨by omega,hn⟩,rfl⟩
  .obtain rfl:i=z.cls.length:=by omega
   rw [NG] at hany;rw [hP0,Ny (by rw [hany];simp)];by_cases h0:z.cls.length=0
   .have b0:((z.cls.length:Int) == 0)=true:=O2.2 (by omega);have hO:=(pr z a 0 r 0 [] 0 (by omega) hz ⟨by omega,by omega⟩ (Nv _) (Nv _) (Nv _) (by simp) ⟨by omega,by omega⟩).fits (args:=[.agg (ch z),eI a,eI 0,eI r,eI 0,.c (.slice none 0 0),eI 0]) ⟨.one (.refl _),.one (.refl _),.one (.refl _),.one (.refl _),.one (.refl _),.one (.nil 1),.one (.refl _),trivial⟩;rw [ND h0]
    repeat' first|refine gf (kf @hlt b0) ?_|decide|refine sp ?_ ?_<;>intro _
    refine qd hO (.inr (jU _)) ?_
    repeat' first|refine go ?_|simp only [lT,bK,dK,dS,aE.shift]|decide|refine sp ?_ ?_<;>intro _
    all_goals exact ⟨rfl,qW rfl gc⟩
   .have b0:((z.cls.length:Int) == 0)=false:=Oa.2 (by omega);rw [Ny h0];have hCap:=s0 (r - 1);have h4:=KW hr.2;have hp1:=kq (r - 1);obtain ⟨M,hM⟩:∃ M:Nat,cj (r - 1)=(M:Int):=⟨(cj (r - 1)).toNat,by omega⟩;have hMn:(cj (r - 1)).toNat=M:=(by omega);have hBl:=qk z a r;rw [hMn] at h4 hBl ⊢;rw [hM] at hCap;have hgn:z.gaps.length=z.cls.length - 1:=(by omega);have hro:-1000000<=r /\ r<=1000000:=⟨by omega,by omega⟩;have hao:0<=a /\ a<31:=⟨by omega,by omega⟩
    have hBb:∀ i,i<=1000 -> (ik z a r i).length<=65000:=fun i hi=>by
     have h1:=hBl i;have h2:(M+1) * (M+1)<=8 * 8:=Pz (by omega) (by omega);have h3:i * (1+(M+1) * (M+1))<=1000 * 65:=Pz hi (by omega);omega
    repeat' first|refine gf (kf @hlt (kf b0 er)) ?_|decide|refine sp ?_ ?_<;>intro _|refine cA hCap ?_|fail
    refine ae (fun st=>∃ k:Nat,k<=M+1 /\ st=⟨148,[(1,eI a),(2,eI r),(3,.op 0 0 0),(7,eI (z.cls.length:Int)),(9,.osl 1),(10,eI (M:Int)),(11,eI ((M:Int) - (k:Int)))],[(0,some (.box 60 (ch z))),(1,some (.row 60 2 ((pc z a r M k).map ch)))],2⟩) (fun st=>ye st 11) ⟨_,((aR 9 60 2 (by simp only [ia,aj.get,aX,aj.put,↓reduceIte,reduceCtorEq,Nat.reduceLT,Nat.reduceEqDiff,Nat.reduceAdd,Nat.reduceLeDiff,eq_self,implies_true,pc,O8,N3,Int.sub_zero,Int.natCast_zero])).trans (wS [0,1] (kf @pc.eq_1 (kf @O8 (kf @Int.sub_zero @Int.natCast_zero))))),0,Nv _,rfl⟩ ?_;rintro _ ⟨k,hk,rfl⟩;by_cases hkM:k<=M
    .have he:(M:Int) - (k:Int)=((M - k:Nat):Int):=(by omega);have e1:IntKind.i64.wrap (((M - k:Nat):Int) - 1)=(M:Int) - ((k+1:Nat):Int):=by rw [ar (by omega) (by omega)];omega
     have hO:=pr z a 0 r 0 [((M - k:Nat):Int)] 0 (by omega) hz hao (Nv _) (Nv _) (Nv _) (by simp) hro;have et:(pc z a r M (k+1)).map ch=(pc z a r M k).map ch ++ [ch (gU z a 0 r 0 [((M - k:Nat):Int)] 0)]:=(by simp [pc,OL]);have hal:=qp z a r M k
     have m1:∀ (e:List (Nat × AV)) (t:af) (nx:Nat),ye ⟨148,(1,eI a) :: (2,eI r) :: (3,.op 0 0 0) :: (7,eI (z.cls.length:Int)) :: (9,.osl 1) :: (10,eI (M:Int)) :: (11,eI ((M:Int) - ((k+1:Nat):Int))) :: e,t,nx⟩ 11=M - k:=fun e t nx=>by
      show ((M:Int) - ((k+1:Nat):Int)+1).toNat=M - k;omega
     have m2:∀ (e:List (Nat × AV)) (t:af) (nx:Nat),ye ⟨148,(1,eI a) :: (2,eI r) :: (3,.op 0 0 0) :: (7,eI (z.cls.length:Int)) :: (9,.osl 1) :: (10,eI (M:Int)) :: (11,eI ((M - k:Nat):Int)) :: e,t,nx⟩ 11=M - k+1:=fun e t nx=>by
      show (((M - k:Nat):Int)+1).toNat=M - k+1;omega
     rw [he];obtain ⟨O,hOe⟩:∃ O,O=pc z a r M k:=⟨_,rfl⟩;rw [<- hOe] at et hal ⊢
     repeat' first|refine go ?_|decide|refine sp ?_ ?_<;>intro _
     refine ⟨rfl,?_⟩;refine qd hO (.inr (jU _)) ?_
     repeat' first|refine gq ?_|simp only [lT,bK,dK,dS,aE.shift]|decide|refine sp ?_ ?_<;>intro _|(with_reducible apply And.intro)
     all_goals first
      | rfl
      | omega
      | exact fa (wS [0,6] (kf et (kf @hOe e1))) ⟨k+1,by omega,rfl⟩ (by rw [m1,m2];omega)
    .obtain rfl:k=M+1:=by omega
     have e0:decide ((0:Int)<=(M:Int) - ((M+1:Nat):Int))=false:=NE (by omega);have hal:=qp z a r M (M+1);obtain ⟨O,hOe⟩:∃ O,O=pc z a r M (M+1):=⟨_,rfl⟩;rw [<- hOe] at hal ⊢
     repeat' first|refine gf e0 ?_|decide|refine sp ?_ ?_<;>intro _
     refine ae (fun st=>∃ i:Nat,i<=z.cls.length /\ st=⟨148,[(1,eI a),(2,eI r),(3,.op 0 0 0),(7,eI (z.cls.length:Int)),(9,.osl 1),(10,eI (M:Int)),(12,eI (i:Int))],[(0,some (.box 60 (ch z))),(1,some (.row 60 2 ((O ++ ik z a r i).map ch)))],2⟩) (fun st=>z.cls.length - aq st 12) ⟨_,(wE (kf @ik.eq_1 @ik.eq_2)),0,Nv _,rfl⟩ ?_;rintro _ ⟨i,hi,rfl⟩;have hPl:=hBb i (by omega);obtain ⟨P,hPe⟩:∃ P,P=O ++ ik z a r i:=⟨_,rfl⟩;have hPl2:P.length<=66000:=by rw [hPe,NB];omega
     rw [<- hPe];by_cases hli:i<z.cls.length
     .have hIn:=L5 z a i r (by omega) hz hao hli hro;have e2:IntKind.i64.wrap ((z.cls.length:Int) - 1)=((z.cls.length - 1:Nat):Int):=by rw [ar (by omega) (by omega)];omega
      have ei:IntKind.i64.wrap ((i:Int)+1)=((i+1:Nat):Int):=by rw [ar (by omega) (by omega)];omega
      by_cases hl2:i+1<z.cls.length
      .have hl3:i<z.cls.length - 1:=(by omega);have hig:i<z.gaps.length:=(by omega);obtain ⟨g,hg⟩:∃ g,g=z.gaps[i]:=⟨_,rfl⟩;have hrg:(z.gaps.map fun n=>[eI n])[i]?.getD []=[eI g]:=by rw [hg];simp [hig]
       have hgd:z.gaps.getD i 0=g:=by rw [hg];simp [List.getD,hig]
       have hS:=FX g r hro;have hSl:=xf g r;rw [hMn] at hSl;have hSl2:(rE g r).length<=64:=N2 hSl (Pz (show M+1<=8 by omega) (show M+1<=8 by omega));have hB1:∀ j,jZ z a r i j=zn z a i r :: ((rE g r).take j).map fun p=>gU z a (i+1) r i [p.1,p.2] (i+1):=fun j=>by rw [jZ,hgd]
       have hBs:ik z a r (i+1)=ik z a r i ++ jZ z a r i (rE g r).length:=(by rw [ik,ND hl2,hgd]);obtain ⟨S,hSe⟩:∃ S,S=rE g r:=⟨_,rfl⟩;rw [<- hSe] at hS hSl2 hB1 hBs;have et0:(P ++ jZ z a r i 0).map ch=P.map ch ++ [ch (zn z a i r)]:=by rw [hB1];simp
       repeat' first|refine gf (kf @hli (kf hl2 (kf hl3 (kf e2 (kf @hrg @hig))))) ?_|decide|refine sp ?_ ?_<;>intro _|refine cA hIn ?_|refine cA hS ?_|(with_reducible apply And.intro)
       all_goals first
        | rfl
        | omega
        | skip
       refine ae (fun st=>∃ j:Nat,j<=S.length /\ st=⟨148,[(1,eI a),(2,eI r),(3,.op 0 0 0),(7,eI (z.cls.length:Int)),(9,.osl 1),(10,eI (M:Int)),(12,eI (i:Int)),(13,.sl 2 (S.map eP)),(14,eI (j:Int))],[(0,some (.box 60 (ch z))),(1,some (.row 60 2 ((P ++ jZ z a r i j).map ch)))],2⟩) (fun st=>S.length - aq st 14) ⟨_,(wS [0,3] et0),0,Nv _,rfl⟩ ?_;rintro _ ⟨j,hj,rfl⟩;have hQl:(P ++ jZ z a r i j).length<=66100:=by rw [hB1,NB,NZ,NI,NF];omega
       by_cases hlj:j<S.length
       .obtain ⟨p,hp⟩:∃ p,p=S[j]:=⟨_,rfl⟩;have hrp:(S.map eP)[j]?.getD []=eP p:=by rw [hp];simp [hlj]
        have q0:List.drop (Int.toNat 0 * 1) (eP p)=[eI p.1,eI p.2]:=rfl;have q1:List.drop (Int.toNat 1 * 1) (eP p)=[eI p.2]:=rfl;have hO:=pr z a (i+1) r i [p.1,p.2] (i+1) (by omega) hz hao (by omega) (by omega) (by omega) (by simp) hro
        have et:(P ++ jZ z a r i (j+1)).map ch=(P ++ jZ z a r i j).map ch ++ [ch (gU z a (i+1) r i [p.1,p.2] (i+1))]:=by
         rw [hB1,hB1,Ns hlj,<- hp];simp
        obtain ⟨Q,hQ⟩:∃ Q,Q=P ++ jZ z a r i j:=⟨_,rfl⟩;rw [<- hQ] at et hQl ⊢
        repeat' first|refine ge @hlj ?_|decide|refine sp ?_ ?_<;>intro _
        refine aD [1] [0,1,2,3,4,5,6,7,8,9,10,11,12,13,14,15,16,18,19] (.exec 17 (.exec 20 (.exec 21 (.exec 22 (.exec 23 .done))))) (by kernel_rfl) (by simp [af.gc]) ?_
        repeat' first|refine ge (kf @hlj (kf @hrp (kf q0 (kf q1 (kf M1 (kf M7 (kf M6 ei))))))) ?_|decide|refine sp ?_ ?_<;>intro _
        refine ⟨rfl,?_⟩;refine qd hO (.inr (jU _)) ?_
        repeat' first|refine gq ?_|simp only [lT,bK,dK,dS,aE.shift]|decide|refine sp ?_ ?_<;>intro _|(with_reducible apply And.intro)
        all_goals first
         | rfl
         | omega
         | exact rI (wS [0,6] (kf et hQ)) ⟨j+1,by omega,rfl⟩
       .obtain rfl:j=S.length:=by omega
        have hn:P ++ jZ z a r i S.length=O ++ ik z a r (i+1):=(by rw [hBs,hPe,Oj]);rw [hn]
        repeat' first|refine gf @hlj ?_|decide|refine sp ?_ ?_<;>intro _
        all_goals exact rI wC ⟨i+1,by omega,rfl⟩
      .have hl3:¬ i<z.cls.length - 1:=(by omega);have hBs:ik z a r (i+1)=ik z a r i ++ [zn z a i r]:=(by rw [ik,Ny hl2]);have et:(O ++ ik z a r (i+1)).map ch=P.map ch ++ [ch (zn z a i r)]:=by rw [hBs,hPe];simp
       repeat' first|refine gf (kf @hli (kf hl2 (kf hl3 e2))) ?_|decide|refine sp ?_ ?_<;>intro _|refine cA hIn ?_|(with_reducible apply And.intro)
       all_goals first
        | rfl
        | omega
        | exact rI (wS [0,3] et) ⟨i+1,by omega,rfl⟩
     .obtain rfl:i=z.cls.length:=by omega
      repeat' first|refine gf @hli ?_|decide|refine sp ?_ ?_<;>intro _
      refine ae (fun st=>∃ j:Nat,j<=M+1 /\ st=⟨148,[(1,eI a),(2,eI r),(3,.op 0 0 0),(7,eI (z.cls.length:Int)),(9,.osl 1),(10,eI (M:Int)),(15,eI (j:Int))],[(0,some (.box 60 (ch z))),(1,some (.row 60 2 ((P ++ p6 z a r j).map ch)))],2⟩) (fun st=>M+1 - aq st 15) ⟨_,(wE (kf @p6.eq_1 @O8)),0,Nv _,rfl⟩ ?_;rintro _ ⟨j,hj,rfl⟩;have hCl:=u1 z a r j;by_cases hlj:j<=M
      .have hO:=pr z a z.cls.length r (z.cls.length - 1) [(j:Int)] (z.cls.length - 1) (by omega) hz hao (Nz _) (by omega) (by omega) (by simp) hro;have e2:IntKind.i64.wrap ((z.cls.length:Int) - 1)=((z.cls.length - 1:Nat):Int):=by rw [ar (by omega) (by omega)];omega
       have et:(P ++ p6 z a r (j+1)).map ch=(P ++ p6 z a r j).map ch ++ [ch (gU z a z.cls.length r (z.cls.length - 1) [(j:Int)] (z.cls.length - 1))]:=(by simp [p6,OL]);have hQl:(P ++ p6 z a r j).length<=66100:=by rw [NB];omega
       obtain ⟨Q,hQ⟩:∃ Q,Q=P ++ p6 z a r j:=⟨_,rfl⟩;rw [<- hQ] at et hQl ⊢
       repeat' first|refine ge (kf @hlj e2) ?_|decide|refine sp ?_ ?_<;>intro _
       refine ⟨rfl,?_⟩;refine qd hO (.inr (jU _)) ?_
       repeat' first|refine gq ?_|simp only [lT,bK,dK,dS,aE.shift]|decide|refine sp ?_ ?_<;>intro _|(with_reducible apply And.intro)
       all_goals first
        | rfl
        | omega
        | exact rI (wS [0,6] (kf et hQ)) ⟨j+1,by omega,rfl⟩
      .obtain rfl:j=M+1:=by omega
       rw [hPe]
       repeat' first|refine gf @hlj ?_|decide|refine sp ?_ ?_<;>intro _
       all_goals exact qW rfl gc
end
section
structure Pt where
 n:Int
 a:Int
 c:Int
 t:Int
instance:Inhabited Pt:=⟨⟨0,0,0,0⟩⟩
def Nm (x y:Pt):Bool:=decide (x.n<y.n) || (decide (x.n=y.n) && decide (x.t<=y.t))
def M5 (l:List Pt):List Pt:=l.mergeSort Nm
def Gf (bs:Nat):Nat -> List Pt -> List Pt
 | 0,l=>M5 l
 | f+1,l=>if bs<=l.length then M5 (l.take bs) ++ Gf bs f (l.drop bs) else M5 l
def G (bs:Nat) (l:List Pt):List Pt:=Gf bs l.length l
end
section
end
section
end
section
def M3 (a b:Int):Int:=bits .or .i64 a b
end
section
theorem LW (r:Int):0<=cj r:=by
 have h1:1<=(2:Nat) ^ (min r.toNat 20):=Nat.one_le_two_pow;have h2:((2 ^ (min r.toNat 20):Nat):Int)=(2:Int) ^ (min r.toNat 20):=by simp
 unfold cj;omega
end
end
section
section
theorem Mt : (Tryz.prog.fieldsOf 128).toList.map (fun f => (f.name, f.type, f.offset)) = [("Attrs", 3, 0), ("Const", 3, 1)] := by kernel_rfl
theorem JY (op:BinOp) (hop:op=.eql \/ op=.neq) (a b:fr):qT Tryz.prog op 128 (.agg #[.int .i64 a.attrs,.int .i64 a.const]) (.agg #[.int .i64 b.attrs,.int .i64 b.const]) (.bool (if op matches .eql then (a.attrs == b.attrs && a.const == b.const) else !(a.attrs == b.attrs && a.const == b.const))):=by
 have ht:=Mt
 obtain ⟨f,g,hfs⟩:∃ f g,(Tryz.prog.fieldsOf 128).toList=[f,g]:=by
  generalize (Tryz.prog.fieldsOf 128).toList=l at ht ⊢
  cases l with
  | nil=>simp at ht
  | cons f l=>cases l with
   | nil=>simp at ht
   | cons g l=>cases l with
    | nil=>exact ⟨f,g,rfl⟩
    | cons h l=>simp at ht
 rw [hfs] at ht;simp only [Oz,N3,Pr,Prod.mk.injEq,and_true] at ht;obtain ⟨⟨h1,h2,h3⟩,h4,h5,h6⟩:=ht;refine sr [(.int .i64 a.attrs,.int .i64 b.attrs),(.int .i64 a.const,.int .i64 b.const)] (by kernel_rfl) (by kernel_rfl) (by kernel_rfl) (by rw [hfs];rfl) (fun k f' p hk hp=>?_) (by simp [ld,qa]) hop;rw [hfs] at hk
 match k,hk,hp with
 | 0,hk,hp=>
  cases hk;cases hp;refine ⟨by rw [h1];decide,?_,by rw [h3];rfl,by rw [h3];rfl⟩;rw [h2]
  kernel_rfl
 | 1,hk,hp=>
  cases hk;cases hp;refine ⟨by rw [h4];decide,?_,by rw [h6];rfl,by rw [h6];rfl⟩;rw [h5]
  kernel_rfl
 | k+2,hk,hp=>simp at hk
instance:DecidableEq fr:=fun a b=>decidable_of_iff (a.attrs=b.attrs /\ a.const=b.const) (by cases a;cases b;simp)
theorem MF (x y:fr):qT Tryz.prog .neq 128 (.agg #[.int .i64 x.attrs,.int .i64 x.const]) (.agg #[.int .i64 y.attrs,.int .i64 y.const]) (.bool (decide (x ≠ y))):=by
 have h:=JY .neq (.inr rfl) x y
 have e:decide (x ≠ y) = !(x.attrs == y.attrs && x.const == y.const):=by
  rw [O7];cases x;cases y;simp
 rw [e];exact h
theorem LD {a b:Zn} (h1:a.cls=b.cls) (h2:a.gaps=b.gaps):a=b:=by
 cases a;cases b;simp at h1 h2;rw [h1,h2]
theorem rZ {α:Type} {a b:List α} (hl:a.length=b.length) (h:∀ i (h1:i<a.length) (h2:i<b.length),a[i]=b[i]):a=b:=OZ hl h
theorem zx (a b:Zn) (h1:a.cls.length<=1000000) (h2:a.gaps.length<=1000000):dn Tryz.prog 132 [.agg (ch a),.agg (ch b)] fun R=>∃ t,R=val (.bool t) /\ (t=true ↔ a=b):=by
 refine aM ah Tryz.func132 rfl (by decide) Tryz.ntmps132 Tryz.results132 rfl ?_;have no1:a.cls.length ≠ b.cls.length -> ¬ a=b:=fun h e=>h (by rw [e]);have no2:a.gaps.length ≠ b.gaps.length -> ¬ a=b:=fun h e=>h (by rw [e]);by_cases hl1:a.cls.length=b.cls.length
 .have d1:((a.cls.length:Int) != (b.cls.length:Int))=false:=by simp [hl1]
  by_cases hl2:a.gaps.length=b.gaps.length
  .have d2:((a.gaps.length:Int) != (b.gaps.length:Int))=false:=by simp [hl2]
   repeat' first|refine gf (kf d1 d2) ?_|decide|refine sp ?_ ?_<;>intro _
   refine ae (fun st=>∃ k:Nat,k<=a.cls.length /\ (∀ i (h1:i<a.cls.length) (h2:i<b.cls.length),i<k -> a.cls[i]=b.cls[i]) /\ st=⟨59,[(2,.op 0 0 0),(3,.op 1 0 0),(5,eI (k:Int))],[(0,some (.box 60 (ch a))),(1,some (.box 60 (ch b)))],2⟩) (fun st=>a.cls.length - aq st 5) ⟨_,wC,0,Nv _,fun i _ _ h=>by omega,rfl⟩ ?_;rintro _ ⟨k,hk,hs,rfl⟩;by_cases hlt:k<a.cls.length
   .have hlt2:k<b.cls.length:=(by omega);have hB:=MF a.cls[k] b.cls[k];by_cases hxy:a.cls[k]=b.cls[k]
    .rw [NE (by simpa using hxy)] at hB;obtain ⟨x,hx⟩:∃ x,a.cls[k]=x:=⟨_,rfl⟩;obtain ⟨y,hy⟩:∃ y,b.cls[k]=y:=⟨_,rfl⟩;rw [hx,hy] at hB
     repeat' first|refine gq ?_|simp only [ab,hlt,hlt2,hx,hy]|decide|refine sp ?_ ?_<;>intro _
     all_goals refine ⟨_,hB,?_⟩
     all_goals (repeat' (first|refine gq ?_|decide|refine sp ?_ ?_<;>intro _))
     all_goals exact fa wC ⟨k+1,by omega,fun i h1 h2 h3=>(by
      rcases NP i k with h|h
      .exact hs i h1 h2 h
      .obtain rfl:i=k:=by omega
       exact hxy),rfl⟩ (by simp only [aq,ia,aj.get,aX,aj.put,↓reduceIte,reduceCtorEq,Nat.reduceLT,Nat.reduceEqDiff,Nat.reduceAdd,Nat.reduceLeDiff,eq_self,implies_true];omega)
    .rw [NL hxy] at hB;have hno:¬ a=b:=fun e=>hxy (by subst e;rfl);obtain ⟨x,hx⟩:∃ x,a.cls[k]=x:=⟨_,rfl⟩;obtain ⟨y,hy⟩:∃ y,b.cls[k]=y:=⟨_,rfl⟩;rw [hx,hy] at hB
     repeat' first|refine gq ?_|simp only [ab,hlt,hlt2,hx,hy]|decide|refine sp ?_ ?_<;>intro _
     all_goals refine ⟨_,hB,?_⟩
     all_goals (repeat' (first|refine gq ?_|decide|refine sp ?_ ?_<;>intro _))
     all_goals exact ca ⟨false,rfl,by simp;exact hno⟩
   .have hcls:a.cls=b.cls:=rZ hl1 fun i h1 h2=>hs i h1 h2 (by omega)
    repeat' first|refine gf @hlt ?_|decide|refine sp ?_ ?_<;>intro _
    refine ae (fun st=>∃ k:Nat,k<=a.gaps.length /\ (∀ i (h1:i<a.gaps.length) (h2:i<b.gaps.length),i<k -> a.gaps[i]=b.gaps[i]) /\ st=⟨59,[(2,.op 0 0 0),(3,.op 1 0 0),(6,eI (k:Int))],[(0,some (.box 60 (ch a))),(1,some (.box 60 (ch b)))],2⟩) (fun st=>a.gaps.length - aq st 6) ⟨_,wC,0,Nv _,fun i _ _ h=>by omega,rfl⟩ ?_;rintro _ ⟨k,hk,hs2,rfl⟩;by_cases hlt2:k<a.gaps.length
    .have hlt3:k<b.gaps.length:=(by omega);by_cases hxy:a.gaps[k]=b.gaps[k]
     .have d3:(a.gaps[k] != b.gaps[k])=false:=by simpa using hxy
      repeat' first|refine gq ?_|simp only [ab,hlt2,hlt3,d3]|decide|refine sp ?_ ?_<;>intro _
      all_goals exact fa wC ⟨k+1,by omega,fun i h1 h2 h3=>(by
       rcases NP i k with h|h
       .exact hs2 i h1 h2 h
       .obtain rfl:i=k:=by omega
        exact hxy),rfl⟩ (by simp only [aq,ia,aj.get,aX,aj.put,↓reduceIte,reduceCtorEq,Nat.reduceLT,Nat.reduceEqDiff,Nat.reduceAdd,Nat.reduceLeDiff,eq_self,implies_true];omega)
     .have d3:(a.gaps[k] != b.gaps[k])=true:=(by simpa using hxy);have hno:¬ a=b:=fun e=>hxy (by subst e;rfl)
      repeat' first|refine gq ?_|simp only [ab,hlt2,hlt3,d3]|decide|refine sp ?_ ?_<;>intro _
      all_goals exact ca ⟨false,rfl,by simp;exact hno⟩
    .have hgaps:a.gaps=b.gaps:=rZ hl2 fun i h1 h2=>hs2 i h1 h2 (by omega)
     repeat' first|refine gf @hlt2 ?_|decide|refine sp ?_ ?_<;>intro _
     all_goals exact ca ⟨true,rfl,by simp;exact LD hcls hgaps⟩
  .have d2:((a.gaps.length:Int) != (b.gaps.length:Int))=true:=by simp;omega
   repeat' first|refine gf (kf d1 d2) ?_|decide|refine sp ?_ ?_<;>intro _
   exact ca ⟨false,rfl,by simp;exact no2 hl2⟩
 .have d1:((a.cls.length:Int) != (b.cls.length:Int))=true:=by simp;omega
  repeat' first|refine gf d1 ?_|decide|refine sp ?_ ?_<;>intro _
  exact ca ⟨false,rfl,by simp;exact no1 hl1⟩
end
section
def Mu (a b:Int):Int:=bits .and .i64 a b
def Ca (l:List fr):Int:=l.foldl (fun a x=>M3 a x.attrs) 0
def eC (l:List fr):Nat:=l.countP fun x=>!(x.const == -1)
theorem Ce (l:List fr) (x:fr):Ca (l ++ [x])=M3 (Ca l) x.attrs:=by simp [Ca]
theorem qr (l:List fr) (x:fr):eC (l ++ [x])=eC l+(if x.const = -1 then 0 else 1):=by
 unfold eC;rw [List.countP_append];by_cases h:x.const = -1<;>simp [h]
theorem EU (l:List fr):eC l<=l.length:=List.countP_le_length
def DF (l:List fr) (x:fr):Prop:=0<=x.attrs /\ Mu x.attrs (Ca l)=0 /\ ¬ (x.attrs=0 /\ x.const = -1) /\ (x.const = -1 \/ x.const=(eC l:Int))
def pm (l:List fr) (n k:Int):Prop:=(∀ i (h:i<l.length),DF (l.take i) l[i]) /\ Ca l=l5 n /\ (eC l:Int)=k
end
section
theorem ki {P:Program} {f:FuncId} {args:List AV} {Q:Prop} (h:dn P f args fun R=>∃ b,R=val (.bool b) /\ (b=true ↔ Q)):∃ t:Bool,(t=true ↔ Q) /\ ax P f args (val (.bool t)):=by
 by_cases hQ:Q
 .exact ⟨true,by simp [hQ],h.mono fun R ⟨b,h1,h2⟩=>by rw [h1,h2.2 hQ]⟩
 .exact ⟨false,by simp [hQ],h.mono fun R ⟨b,h1,h2⟩=>by
   cases b with
   | true=>exact absurd (h2.1 rfl) hQ
   | false=>exact h1⟩
def ue (z:Zn) (cap:Int):Prop:=(z.gaps.length:Int)=max ((z.cls.length:Int) - 1) 0 /\ ∀ i (h:i<z.gaps.length),0<=z.gaps[i] /\ z.gaps[i]<=cap
def lp (l:List fr) (k:Nat):List Nat:=(List.range k).filter fun i=>decide (0<=(l[i]?.map (·.const)).getD (-1))
theorem kL (l:List fr) {k:Nat} (hk:k<l.length):lp l (k+1)=if 0<=l[k].const then lp l k ++ [k] else lp l k:=by
 unfold lp;rw [OL,List.filter_append];by_cases h:0<=l[k].const
 .rw [ND h];simp [Nq hk,h]
 .rw [Ny h];simp [Nq hk];omega
def cJ (z:Zn) (p q:Nat):List Int:=(z.gaps.take q).drop p
def mz (z:Zn) (p q:Nat) (cap a b:Int):Prop:=
 mY a b ((q:Int) - p - 1+(cJ z p q).sum+1)=(q:Int) - p - 1+(cJ z p q).sum \/ ((∃ g ∈ cJ z p q,g=cap) /\ (q:Int) - p - 1+(cJ z p q).sum<mY a b ((q:Int) - p - 1+(cJ z p q).sum+1))
theorem Ew (cap:Int) (hc:0<=cap):∀ l:List Int,(∀ g ∈ l,0<=g /\ g<=cap) -> 0<=l.sum /\ l.sum<=cap * l.length
 | [],_=>by simp
 | g :: l,h=>by
  have h1:=Ew cap hc l fun x hx=>h x (N7 _ hx);have h2:=h g (Ob ..);rw [List.sum_cons,NZ,Int.natCast_add,Int.mul_add];omega
end
section
deriving instance DecidableEq for fr
deriving instance DecidableEq for Zn
def bM {α:Type} [DecidableEq α] (l:List α):List α:=l.foldl (fun o x=>if x ∈ o then o else o ++ [x]) []
theorem jn {α:Type} [DecidableEq α] {l:List α} {k:Nat} (hk:k<l.length):bM (l.take (k+1))=if l[k] ∈ bM (l.take k) then bM (l.take k) else bM (l.take k) ++ [l[k]]:=by
 unfold bM;rw [Ns hk,OI];rfl
theorem k9 {α:Type} [DecidableEq α] (l:List α):∀ k,k<=l.length -> (bM (l.take k)).length<=k /\ ∀ x ∈ bM (l.take k),x ∈ l
 | 0,_=>by simp [bM]
 | k+1,hk=>by
  obtain ⟨h1,h2⟩:=k9 l k (by omega);rw [jn (by omega)];split
  .exact ⟨by omega,h2⟩
  .refine ⟨by rw [NB,N4];omega,fun x hx=>?_⟩;rcases NK.1 hx with h|h
   .exact h2 x h
   .simp only [NR] at h;rw [h];exact Nt _
theorem kN {α:Type} [DecidableEq α] (l:List α) (x:α):x ∈ bM l ↔ x ∈ l:=by
 constructor
 .intro h;have:=(k9 l l.length (Nz _)).2 x;rw [NG] at this;exact this h
 .intro h
  have key:∀ k,k<=l.length -> ∀ y ∈ l.take k,y ∈ bM (l.take k):=fun k=>by
   induction k with
   | zero=>intro _ y hy;simp at hy
   | succ k ih=>
    intro hk y hy;rw [jn (by omega)];rw [Ns (by omega)] at hy;rcases NK.1 hy with h1|h1
    .have:=ih (by omega) y h1;split
     .exact this
     .exact List.mem_append_left _ this
    .simp only [NR] at h1;subst h1;split
     .assumption
     .simp
  have:=key l.length (Nz _) x (by rw [NG];exact h)
  rwa [NG] at this
theorem k7 {α:Type} [DecidableEq α] (l:List α):(bM l).length<=l.length:=by
 have:=(k9 l l.length (Nz _)).1
 rwa [NG] at this
theorem LU (l:List Zn) (z:Zn) (hll:l.length<=2700000000000) (hl:∀ y ∈ l,y.cls.length<=1000000 /\ y.gaps.length<=1000000):ax Tryz.prog 156 [.sl 2 (l.map ch),.agg (ch z)] (val (.bool (decide (z ∈ l)))):=by
 refine aa ah Tryz.func156 rfl (by decide) Tryz.ntmps156 Tryz.results156 rfl (aH _) ?_
 repeat' first|refine go ?_|decide|refine sp ?_ ?_<;>intro _
 refine ae (fun st=>∃ k:Nat,k<=l.length /\ z ∉ l.take k /\ st=⟨18,[(0,.sl 2 (l.map ch)),(3,.op 0 0 0),(5,eI (k:Int))],[(0,some (.box 60 (ch z)))],1⟩) (fun st=>l.length - aq st 5) ⟨_,wC,0,Nv _,by simp,rfl⟩ ?_;rintro _ ⟨k,hk,hI,rfl⟩;by_cases hlt:k<l.length
 .obtain ⟨x,hx⟩:∃ x,x=l[k]:=⟨_,rfl⟩;have hrow:(l.map ch)[k]?.getD []=ch x:=by rw [hx];simp [hlt]
  obtain ⟨g1,g2⟩:=hl x (hx ▸ Nt hlt);obtain ⟨t,ht,hS⟩:=ki (zx x z g1 g2);have hm:z ∈ l.take (k+1) ↔ z ∈ l.take k \/ z=x:=by rw [Ns hlt,NK,NR,hx]
  cases t with
  | true=>
   have e:=ht.1 rfl;have hmem:z ∈ l:=by rw [<- e,hx];exact Nt hlt
   rw [NL hmem]
   repeat' first|refine gf (kf @hrow @hlt) ?_|decide|refine sp ?_ ?_<;>intro _|refine cA hS ?_|fail
  | false=>
   have hne:¬ x=z:=fun e=>by have:=ht.2 e;cases this
   repeat' first|refine gf (kf @hrow @hlt) ?_|decide|refine sp ?_ ?_<;>intro _|refine cA hS ?_|fail
   all_goals exact rI wC ⟨k+1,by omega,fun h=>(hm.1 h).elim hI fun e=>hne e.symm,rfl⟩
 .obtain rfl:k=l.length:=by omega
  rw [NG] at hI;rw [NE hI]
  repeat' first|refine gf @hlt ?_|decide|refine sp ?_ ?_<;>intro _
theorem Iq (l:List Zn) (hl:∀ y ∈ l,y.cls.length<=1000000 /\ y.gaps.length<=1000000) (hll:l.length<=2700000000000):ax Tryz.prog 125 [.sl 2 (l.map ch)] (ic 60 2 ((bM l).map ch)):=by
 refine aa ah Tryz.func125 rfl (by decide) Tryz.ntmps125 Tryz.results125 rfl (cB _ _ _) ?_
 repeat' first|refine go ?_|decide|refine sp ?_ ?_<;>intro _
 refine ae (fun st=>∃ k:Nat,k<=l.length /\ st=⟨26,[(0,.sl 2 (l.map ch)),(3,.osl 0),(4,eI (k:Int))],[(0,some (.row 60 2 ((bM (l.take k)).map ch)))],1⟩) (fun st=>l.length - aq st 4) ⟨_,((aR 3 60 2 (by simp only [ia,aj.get,aX,aj.put,↓reduceIte,reduceCtorEq,Nat.reduceLT,Nat.reduceEqDiff,Nat.reduceAdd,Nat.reduceLeDiff,eq_self,implies_true,NJ,bM,OW,N3])).trans (wS [0] (kf @NJ (kf @bM.eq_1 @OW)))),0,Nv _,rfl⟩ ?_;rintro _ ⟨k,hk,rfl⟩;by_cases hlt:k<l.length
 .obtain ⟨x,hx⟩:∃ x,x=l[k]:=⟨_,rfl⟩;have hrow:(l.map ch)[k]?.getD []=ch x:=by rw [hx];simp [hlt]
  have hs:=jn hlt;obtain ⟨g1,g2⟩:=k9 l k hk;obtain ⟨U,hU⟩:∃ U,U=bM (l.take k):=⟨_,rfl⟩;rw [<- hU,<- hx] at hs;rw [<- hU] at g1 g2 ⊢;have hH:=LU U x (by omega) fun y hy=>hl y (g2 y hy);by_cases hm:x ∈ U
  .rw [ND hm] at hs;rw [NL hm] at hH
   repeat' first|refine gf (kf @hrow @hlt) ?_|decide|refine sp ?_ ?_<;>intro _|refine cA hH ?_|fail
   all_goals exact rI (wE hs) ⟨k+1,by omega,rfl⟩
  .rw [Ny hm] at hs;rw [NE hm] at hH;have et:(bM (l.take (k+1))).map ch=U.map ch ++ [ch x]:=by rw [hs];simp
   repeat' first|refine gf (kf @hrow @hlt) ?_|decide|refine sp ?_ ?_<;>intro _|refine cA hH ?_|(with_reducible apply And.intro)
   all_goals first
    | rfl
    | omega
    | exact rI (wS [2] et) ⟨k+1,by omega,rfl⟩
 .obtain rfl:k=l.length:=by omega
  repeat' first|refine gf (kf @hlt @NG) ?_|decide|refine sp ?_ ?_<;>intro _
  exact aO (by simp [af.gc])
def rD (z:Zn) (l:List Int) (r:Int):Nat -> List Zn
 | 0=>[z]
 | i+1=>bM ((rD z l r i).flatMap fun o=>ii (dY o (l.getD i 0) (r - i)) (l.getD i 0) (r - i))
def GA:Nat -> Nat
 | 4=>1316
 | 3=>348
 | 2=>104
 | _=>42
def JP:Nat -> Nat
 | 0=>1
 | r+1=>GA (r+1) * JP r
theorem f5 {α β:Type} (f:α -> List β) (b:Nat):∀ l:List α,(∀ x ∈ l,(f x).length<=b) -> (l.flatMap f).length<=l.length * b
 | [],_=>by simp
 | x :: l,h=>by
  have h1:=f5 f b l fun y hy=>h y (N7 _ hy);have h2:=h x Ob;rw [O3,NB,NZ,PS];omega
theorem Ir {r:Int} (h:r<=4) (h1:1<=r):(r=4 -> (cj (r - 1)).toNat=7) /\ (r=3 -> (cj (r - 1)).toNat=3) /\ (r=2 -> (cj (r - 1)).toNat=1) /\ (r=1 -> (cj (r - 1)).toNat=0):=
 ⟨fun e=>by rw [e];decide,fun e=>by rw [e];decide,fun e=>by rw [e];decide,fun e=>by rw [e];decide⟩
theorem w9 (z:Zn) (a:Int) {r:Int} (hz:z.cls.length<=20) (hr:r<=4):(ii z a r).length<=if r<1 then 0 else GA r.toNat:=by
 unfold ii;split
 .exact Nv _
 .rename_i hb;have h1:¬ r<1:=fun h=>hb (.inl h);rw [Ny h1];have hlo:=Ir hr (by omega);have hB:=qk z a r z.cls.length;split
  .exact Nv _
  .split
   .have:1<=GA r.toNat:=by unfold GA;split<;>omega
    simpa using this
   .rw [NB,NB,qp,u1];have h4:r=4 \/ r=3 \/ r=2 \/ r=1:=(by omega);rcases h4 with e|e|e|e
    .rw [hlo.1 e] at hB ⊢;have:=NS (1+(7+1) * (7+1)) hz;subst e;show _<=1316;omega
    .rw [hlo.2.1 e] at hB ⊢;have:=NS (1+(3+1) * (3+1)) hz;subst e;show _<=348;omega
    .rw [hlo.2.2.1 e] at hB ⊢;have:=NS (1+(1+1) * (1+1)) hz;subst e;show _<=104;omega
    .rw [hlo.2.2.2 e] at hB ⊢;have:=NS (1+(0+1) * (0+1)) hz;subst e;show _<=42;omega
theorem z6:∀ r,1<=JP r
 | 0=>Nz _
 | r+1=>by
  have h1:=z6 r;have h2:1<=GA (r+1):=by unfold GA;split<;>omega
  rw [JP];exact Pz h2 h1
def M4 (N:Nat) (l:List Zn):Prop:=∀ y ∈ l,ly N y
theorem pz {N:Nat} (a r:Int):∀ (n:Nat) (z:Zn) (i:Nat),ly N z -> z.gaps.length=z.cls.length - 1 -> ly N (Af a r n z i) /\ (Af a r n z i).cls.length<=z.cls.length /\ (Af a r n z i).gaps.length=(Af a r n z i).cls.length - 1
 | 0,z,i,h,hg=>⟨h,Nz _,hg⟩
 | n+1,z,i,h,hg=>by
  rw [Af];split
  .exact ⟨h,Nz _,hg⟩
  .rename_i hi;split
   .exact pz a r n z (i+1) h hg
   .have hc:=zA z a i;have hB:ly N (pD z a i):=⟨by rw [hc];exact h.cl,h.ga,Fg a i h.at_⟩;split
    .obtain ⟨w1,w2⟩:=vc (pD z a i) i r (by rw [hc];omega);have hm:=pv (pD z a i) i r _ (Nz _);rw [hc] at w1 w2 hm;have hcl:=h.cl;obtain ⟨k1,k2,k3⟩:=pz (N:=N) a r n (lm (pD z a i) i r z.cls.length) i ⟨by rw [w1];omega,by rw [w2];omega,fun x hx=>hB.at_ x (hm x hx)⟩ (by rw [w1,w2]);rw [w1] at k2;exact ⟨k1,by omega,k3⟩
    .obtain ⟨k1,k2,k3⟩:=pz a r n (pD z a i) (i+1) hB (by rw [hc];exact hg);exact ⟨k1,by omega,k3⟩
theorem ml {N:Nat} {z:Zn} (a r:Int) (h:ly N z):ly N (dY z a r) /\ (dY z a r).cls.length<=z.cls.length:=by
 unfold dY;split
 .rename_i hg;obtain ⟨k1,k2,_⟩:=pz a r z.cls.length z 0 h (by omega);exact ⟨k1,k2⟩
 .exact ⟨h,Nz _⟩
theorem p8 (s i:Int):aB (cY s i):=cF (ne s i)
theorem tR {N:Nat} {z:Zn} (a:Int) (at_:Nat) (r:Int) (ahead:Nat) (come:List Int) (behind:Nat) (h:ly N z) (hat:at_<=z.cls.length) (hg:(ahead+come.length)+(z.gaps.length - behind)<=N+1) (hah:ahead<=z.gaps.length):ly (N+1) (gU z a at_ r ahead come behind):=by
 have hcl:=h.cl;refine ⟨?_,?_,fun x hx=>?_⟩
 .simp only [gU,NB,NZ,NF,Ov];omega
 .have:(mE z r).length=z.gaps.length:=by simp [mE]
  simp only [gU,NB,NF,Ov];omega
 .rcases NK.1 hx with h1 | h1
  .exact h.at_ x (N6 h1)
  .rcases OD.1 h1 with h2 | h2
   .rw [h2];exact p8 _ _
   .exact h.at_ x (OH h2)
theorem IK {N:Nat} {z:Zn} (a:Int) (i:Nat) (r:Int) (h:ly N z):ly (N+1) (zn z a i r):=by
 have hcl:=h.cl;have hga:=h.ga;refine ⟨by simp [zn];omega,by simp [zn,mE];omega,fun x hx=>?_⟩;rcases OP hx with h1|h1
 .exact h.at_ x h1
 .rw [h1];exact p8 _ _
theorem u7 {N:Nat} {z:Zn} (a r:Int) (h:ly N z) (hg:z.gaps.length=z.cls.length - 1):∀ i,i<=z.cls.length -> ∀ y ∈ ik z a r i,ly (N+1) y
 | 0,_,y,hy=>by simp [ik] at hy
 | i+1,hi,y,hy=>by
  have hcl:=h.cl;rw [ik] at hy;rcases NK.1 hy with h1|h1
  .exact u7 a r h hg i (by omega) y h1
  .split at h1
   .rcases OD.1 h1 with h2 | h2
    .rw [h2];exact IK a i r h
    .obtain ⟨p,_,rfl⟩:=NC.1 h2;exact tR a _ r _ _ _ h (by omega) (by simp only [NZ,Ps];omega) (by omega)
   .simp only [NR] at h1;rw [h1];exact IK a i r h
theorem Dg {N:Nat} {z:Zn} (a r:Int) (h:ly N z):∀ y ∈ ii z a r,ly (N+1) y:=by
 have hcl:=h.cl;intro y hy;unfold ii at hy;split at hy
 .simp at hy
 .rename_i hb;have hg:z.gaps.length=z.cls.length - 1:=by omega
  split at hy
  .simp at hy
  .split at hy
   .rename_i h0;simp only [NR] at hy;rw [hy];exact tR a _ r _ _ _ h (Nv _) (by simp;omega) (Nv _)
   .rename_i h0;rcases NK.1 hy with h1|h1
    .rcases NK.1 h1 with h2 | h2
     .obtain ⟨j,_,rfl⟩:=NC.1 h2;exact tR a _ r _ _ _ h (Nv _) (by simp;omega) (Nv _)
     .exact u7 a r h hg _ (Nz _) y h2
    .obtain ⟨j,_,rfl⟩:=NC.1 h1;exact tR a _ r _ _ _ h (Nz _) (by simp;omega) (by omega)
theorem zY {N:Nat} {z:Zn} (l:List Int) {r:Int} (h:ly N z) (hr:r<=4):∀ i,N+i<=20 -> M4 (N+i) (rD z l r i) /\ (rD z l r i).length * JP (r - i).toNat<=JP r.toNat
 | 0,_=>by
  refine ⟨fun y hy=>?_,?_⟩
  .simp only [rD,NR] at hy;rw [hy];exact h
  .simp [rD]
 | i+1,hi=>by
  obtain ⟨h1,h2⟩:=zY l h hr i (by omega)
  have hf:∀ o ∈ rD z l r i,(ii (dY o (l.getD i 0) (r - i)) (l.getD i 0) (r - i)).length<=if r - i<1 then 0 else GA (r - i).toNat:=fun o ho=>by
   have hd:=(ml (l.getD i 0) (r - i) (h1 o ho)).1.cl;exact w9 _ _ (by omega) (by omega)
  refine ⟨fun y hy=>?_,?_⟩
  .rw [rD,kN,Ow] at hy;obtain ⟨o,ho,hy⟩:=hy;exact Dg _ _ (ml _ _ (h1 o ho)).1 y hy
  .have h3:=k7 ((rD z l r i).flatMap fun o=>ii (dY o (l.getD i 0) (r - i)) (l.getD i 0) (r - i));have h4:=f5 _ _ _ hf;rw [rD];by_cases hc:r - (i:Int)<1
   .rw [ND hc] at h4;have h5:(bM ((rD z l r i).flatMap fun o=>ii (dY o (l.getD i 0) (r - i)) (l.getD i 0) (r - i))).length=0:=(by omega);rw [h5,PF];exact Nv _
   .rw [Ny hc] at h4;obtain ⟨q,hq⟩:∃ q:Nat,(r - (i:Int)).toNat=q+1:=⟨(r - (i:Int)).toNat - 1,by omega⟩;have hq2:(r - ((i+1:Nat):Int)).toNat=q:=(by omega);rw [hq2];rw [hq] at h2 h4;rw [JP] at h2;refine N2 (NS _ (N2 h3 h4)) ?_;rw [Nat.mul_assoc];exact h2
theorem MO {r:Int} (h:r<=4):JP r.toNat<=2000404224:=by
 have:r.toNat=0 \/ r.toNat=1 \/ r.toNat=2 \/ r.toNat=3 \/ r.toNat=4:=by omega
 rcases this with e|e|e|e|e<;>rw [e]<;>decide
theorem tu {N:Nat} {z:Zn} (l:List Int) {r:Int} (h:ly N z) (hr:r<=4) (i:Nat) (hi:N+i<=20):(rD z l r i).length<=2000404224:=by
 have h1:=(zY l h hr i hi).2;have h2:=z6 (r - i).toNat
 have h3:=MO hr;have h4:=Nat.le_mul_of_pos_right (rD z l r i).length h2;omega
theorem AQ (z:Zn) (l:List Int) (r:Int) {N:Nat} (hz:ly N z) (hN:N+l.length<=20) (hl:∀ a ∈ l,0<=a /\ a<31) (hr:-1000<=r /\ r<=4):ax Tryz.prog 81 [.agg (ch z),sI l,eI r] ⟨.sl 2 ((rD z l r l.length).map ch),[],0⟩:=by
 refine fc 60 ?_;refine aM ah Tryz.func81 rfl (by decide) Tryz.ntmps81 Tryz.results81 rfl ?_;have e00:(rD z l r 0).map ch=[ch z]:=rfl;have ha0:∀ i:Nat,i<=20 -> IntKind.i64.wrap (r - (i:Int))=r - (i:Int):=fun i hi=>ar (by omega) (by omega)
 repeat' first|refine gq ?_|decide|refine sp ?_ ?_<;>intro _
 refine ⟨rfl,?_⟩;refine ae (fun st=>∃ i:Nat,i<=l.length /\ st=⟨50,[(1,sI l),(2,eI r),(3,.op 0 0 0),(7,.osl 1),(8,eI (i:Int))],[(0,some (.box 60 (ch z))),(1,some (.row 60 2 ((rD z l r i).map ch)))],2⟩) (fun st=>l.length - aq st 8) ⟨_,(wE e00),0,Nv _,rfl⟩ ?_;rintro _ ⟨i,hi,rfl⟩;obtain ⟨hB,-⟩:=zY l hz hr.2 i (by omega);have hL:=tu l hz hr.2 i (by omega);by_cases hlt:i<l.length
 .have hBn:=tu l hz hr.2 (i+1) (by omega);obtain ⟨a,ha⟩:∃ a,a=l[i]:=⟨_,rfl⟩;have hra:(l.map fun n=>[eI n])[i]?.getD []=[eI a]:=by rw [ha];simp [hlt]
  have hga:l.getD i 0=a:=by rw [ha];simp [List.getD,hlt]
  have hao:=hl a (ha ▸ Nt hlt);have ew:=ha0 i (by omega);have hs:rD z l r (i+1)=bM ((rD z l r i).flatMap fun o=>ii (dY o a (r - i)) a (r - i)):=by rw [rD,hga]
  obtain ⟨O,hO⟩:∃ O,O=rD z l r i:=⟨_,rfl⟩;rw [<- hO] at hs hB hL ⊢
  have hpl:∀ o ∈ O,(ii (dY o a (r - i)) a (r - i)).length<=1316:=fun o ho=>by
   have hd:=(ml a (r - i) (hB o ho)).1.cl;have h1:=w9 (dY o a (r - i)) a (r:=r - i) (by omega) (by omega);have h2:GA (r - i).toNat<=1316:=by unfold GA;split<;>omega
   split at h1<;>omega
  have hfl:∀ k,k<=O.length -> ((O.take k).flatMap fun o=>ii (dY o a (r - i)) a (r - i)).length<=2632531959000:=fun k hk=>by
   have h1:=f5 (fun o=>ii (dY o a (r - i)) a (r - i)) 1316 (O.take k) fun o ho=>hpl o (N6 ho);rw [NF] at h1;have h2:min k O.length * 1316<=2000404224 * 1316:=NS _ (by omega);omega
  repeat' first|refine gf @hlt ?_|decide|refine sp ?_ ?_<;>intro _
  refine ae (fun st=>∃ k:Nat,k<=O.length /\ st=⟨50,[(1,sI l),(2,eI r),(3,.op 0 0 0),(7,.osl 1),(8,eI (i:Int)),(9,.osl 2),(10,eI (k:Int))],[(0,some (.box 60 (ch z))),(1,some (.row 60 2 (O.map ch))),(2,some (.row 60 2 (((O.take k).flatMap fun o=>ii (dY o a (r - i)) a (r - i)).map ch)))],3⟩) (fun st=>O.length - aq st 10) ⟨_,((aR 9 60 2 (by simp only [ia,aj.get,aX,aj.put,↓reduceIte,reduceCtorEq,Nat.reduceLT,Nat.reduceEqDiff,Nat.reduceAdd,Nat.reduceLeDiff,eq_self,implies_true,NJ,OG,N3])).trans (wS [0,1,2] (kf @NJ @OG))),0,Nv _,rfl⟩ ?_;rintro _ ⟨k,hk,rfl⟩;have hFk:=hfl k hk;by_cases hlk:k<O.length
  .obtain ⟨o,ho⟩:∃ o,o=O[k]:=⟨_,rfl⟩;have hom:o ∈ O:=ho ▸ Nt hlk;have hro:(O.map ch)[k]?.getD []=ch o:=by rw [ho];simp [hlk]
   have hD:=LH o a (r - i) (N:=N+i) (by omega) (hB o hom) hao;have hdB:=(ml a (r - i) (hB o hom)).1;have hP:=H0 (dY o a (r - i)) a (r - i) (N:=N+i) (by omega) hdB ⟨by omega,by omega⟩;have hpo:=hpl o hom
   have et:((O.take (k+1)).flatMap fun o=>ii (dY o a (r - i)) a (r - i)).map ch=((O.take k).flatMap fun o=>ii (dY o a (r - i)) a (r - i)).map ch ++ (ii (dY o a (r - i)) a (r - i)).map ch:=by
    rw [Ns hlk,Pe,<- ho];simp
   obtain ⟨F,hF⟩:∃ F,F=(O.take k).flatMap fun o=>ii (dY o a (r - i)) a (r - i):=⟨_,rfl⟩;rw [<- hF] at et hFk ⊢;obtain ⟨D,hDe⟩:∃ D,D=dY o a (r - i):=⟨_,rfl⟩;rw [<- hDe] at hD hP hpo et;obtain ⟨P,hPe⟩:∃ P,P=ii D a (r - i):=⟨_,rfl⟩;rw [<- hPe] at hP hpo et
   repeat' first|refine ge (kf @hlt (kf @hlk (kf @hro (kf @hra ew)))) ?_|decide|refine sp ?_ ?_<;>intro _
   refine aD [2] [0,1,2,3,4,5,6,7,8,9,10,11,13,14,15,16,17,18,19] (.exec 12 (.exec 20 (.exec 21 (.exec 22 .done)))) (by kernel_rfl) (by simp [af.gc]) ?_
   repeat' first|refine gf (kf @hlt (kf @hlk (kf @hro (kf @hra ew)))) ?_|decide|refine sp ?_ ?_<;>intro _|refine cA hD ?_|refine cA hP ?_|(with_reducible apply And.intro)
   all_goals first
    | rfl
    | omega
    | exact rI (wS [0,1,3] (kf et hF)) ⟨k+1,by omega,rfl⟩
  .obtain rfl:k=O.length:=by omega
   rw [NG] at hFk ⊢
   have hZB:∀ y ∈ O.flatMap fun o=>ii (dY o a (r - i)) a (r - i),y.cls.length<=1000000 /\ y.gaps.length<=1000000:=fun y hy=>by
    obtain ⟨o,ho,hy⟩:=Ow.1 hy;have h1:=Dg a (r - i) (ml a (r - i) (hB o ho)).1 y hy;have h2:=h1.cl;have h3:=h1.ga;exact ⟨by omega,by omega⟩
   have hU:=Iq _ hZB (by omega);rw [<- hs] at hU
   repeat' first|refine gf @hlk ?_|decide|refine sp ?_ ?_<;>intro _
   refine nv [2] (R:=ic 60 2 ((rD z l r (i+1)).map ch)) ?_ ?_ ?_
   .repeat' first|decide|refine go ?_
    exact hU
   .repeat' first|decide|refine go ?_
    left;simp [pi,yS,bV,dk]
   .repeat' first|refine go ?_|simp only [ic,bK,dK,dS,aE.shift]|decide|refine sp ?_ ?_<;>intro _
    all_goals exact rI (wR [0,3]) ⟨i+1,by omega,rfl⟩
 .obtain rfl:i=l.length:=by omega
  repeat' first|refine gf @hlt ?_|decide|refine sp ?_ ?_<;>intro _
  all_goals exact qW rfl gc
end
section
structure Nd where
 z:Zn
 opn:Int
 don:Int
 did:List Int
 cnt:List Int
abbrev fG (n:Nd):List AV:=[.sl 2 (n.z.cls.map cC),sI n.z.gaps,eI n.opn,eI n.don,sI n.did,sI n.cnt]
def bj (n:Nd):St:=⟨[],n.opn,n.don,n.did,n.cnt⟩
noncomputable def xk (m:bb) (c:List Int) (n:Nd) (x:al):Bool:=(jF m (bj n) x).getD (mA (bZ [x] n.z c (bj n)))
theorem Co {m:bb} {s:St} {x:al} (h:cX x=true):jF m s x=none:=by
 have h3:3<=x.op /\ x.op<=8:=by simpa [cX] using h
 unfold jF;simp only [show x.op ≠ 1 by omega,show x.op ≠ 2 by omega,show x.op ≠ 9 by omega,show x.op ≠ 10 by omega,show x.op ≠ 11 by omega,show x.op ≠ 12 by omega,show x.op ≠ 13 by omega,show x.op ≠ 14 by omega,if_false]
theorem yr {m:bb} {s:St} {x:al} (h:cX x=false) (ha:jF m s x=none):¬ (1<=x.op /\ x.op<=14):=by
 rintro ⟨h1,h2⟩
 have h3:¬ (3<=x.op /\ x.op<=8):=by
  intro h3;have:cX x=true:=by simp [cX,h3]
  rw [h] at this;cases this
 unfold jF at ha;rcases (by omega:x.op=1 \/ x.op=2 \/ x.op=9 \/ x.op=10 \/ x.op=11 \/ x.op=12 \/ x.op=13 \/ x.op=14) with e|e|e|e|e|e|e|e<;>rw [e] at ha<;>simp at ha
theorem wV (x:al) (z:Zn) (c:List Int) (s:St) (h:¬ (1<=x.op /\ x.op<=14)):mA (bZ [x] z c s)=false:=by
 have h1:aC x.op ≠ 0:=by
  unfold aC;rw [Ny h];split
  .decide
  .split<;>decide
 have h2:dI 0 x.op=none:=by
  unfold dI;rw [Ny h1,Ny (by omega),Ny (by omega)]
 have h3:cc ([x].map al.op) ≠ 0:=by
  simp [cc,bq,h2]
 unfold bZ lY;rw [ND h3];split<;>rfl
theorem B1 (x:al) (z:Zn) (c:List Int) (s t:St) (h:cX x=true):bZ [x] z c s=bZ [x] z c t:=by
 have h3:3<=x.op /\ x.op<=8:=by simpa [cX] using h
 unfold bZ lY;simp only [ez]
 have:∀ o d:Int,fJ (fun x=>some (yV z c x.la x.ln x.ra x.rn)) o d x []=some [M0 x.op (yV z c x.la x.ln x.ra x.rn)]:=fun o d=>by
  unfold fJ;simp only [show ¬ (x.op=1 \/ x.op=2) by omega,if_false,h3,and_self,if_true]
 rw [this,this]
theorem Lu (m:bb) (c:List Int) (n:Nd) (x:al):(if 3<=x.op /\ x.op<=8 then mA (bZ [x] n.z c ⟨[],0,0,[],[]⟩) else qf m (bj n) x)=xk m c n x:=by
 unfold xk qf;by_cases h:3<=x.op /\ x.op<=8
 .have hc:cX x=true:=by simp [cX,h]
  rw [ND h,Co hc,B1 x n.z c ⟨[],0,0,[],[]⟩ (bj n) hc];rfl
 .have hc:cX x=false:=by
   cases hb:cX x
   .rfl
   .exact absurd (by simpa [cX] using hb) h
  rw [Ny h]
  cases ha:jF m (bj n) x with
  | some b=>rfl
  | none=>
   rw [wV x n.z c (bj n) (yr hc ha)]
theorem nH (n:Nd) (h1:n.did.length<=1000000) (h2:n.cnt.length<=1000000):ax Tryz.prog 38 [.agg (fG n)] ⟨.agg [.c (.slice none 0 0),eI n.opn,eI n.don,sI n.did,sI n.cnt],[],0⟩:=by
 refine ax.still (R:=⟨.agg [.c (.slice none 0 0),eI n.opn,eI n.don,.osl 0,.osl 1],[(0,some (.row 3 1 (n.did.map fun n=>[eI n]))),(1,some (.row 3 1 (n.cnt.map fun n=>[eI n])))],2⟩) [0,1] ?_ (by simp [cG.frzs,cG.frz,af.gc,AV.frz,AV.frzL,bE,aE.frz]) (by simp [AV.lt,AV.ltL]);refine aa ah Tryz.func38 rfl (by decide) Tryz.ntmps38 Tryz.results38 rfl (jW (by simp [cr,aE.lt,AV.ltL,AV.lt]) (by simp [AV.lt,AV.ltL])) ?_
 repeat' first|refine go ?_|decide|refine sp ?_ ?_<;>intro _
 refine aD [1] [0,1,2,3,5,6,9,10] (.two 4 (.two 7 (.exec 8 (.exec 11 (.take 12 (.exec 13 .done)))) 8 (.exec 7 (.exec 11 (.take 12 (.exec 13 .done))))) 8 (.exec 4 (.exec 7 (.exec 11 (.take 12 (.exec 13 .done)))))) (by kernel_rfl) (by simp [af.gc]) ?_
 repeat' first|refine gq ?_|decide|refine sp ?_ ?_<;>intro _|(with_reducible apply And.intro)
 all_goals first
  | omega
  | rfl
  | exact ⟨[3,5],by decide,rfl,by simp [cb,af.gc]⟩
  | exact ⟨[4,5],by decide,rfl,by simp [cb,af.gc]⟩
  | exact ⟨[5,4],by decide,rfl,by simp [cb,af.gc]⟩
  | exact ⟨[5,3],by decide,rfl,by simp [cb,af.gc]⟩
theorem zO (m:bb) (c:List Int) (n:Nd) (x:al) (hst:m.stages.length<=1000000) (hle:m.events.length<=1000000) (hl:m.miles.length<=1000000) (hl2:m.sods.length<=1000000) (hl3:m.users.length<=1000000) (hr:∀ p ∈ m.roles,aB p.2)
  (h1:n.z.cls.length<=1000000) (h2:c.length<=1000) (h3:n.did.length<=1000000) (h4:n.cnt.length<=1000000) (hz:∀ x ∈ n.z.cls,aB x.attrs) (ho:aB n.opn) (hd:aB n.don) (hdid:∀ x ∈ n.did,aB x) :
  ax Tryz.prog 14 [.agg (aQ m),sI c,.agg (fG n),.agg (eD x)] (val (.bool (xk m c n x))):=by
 refine aa ah Tryz.func14 rfl (by decide) Tryz.ntmps14 Tryz.results14 rfl (aH _) ?_;rw [<- Lu];by_cases h:3<=x.op /\ x.op<=8
 .have hc:(decide (3<=x.op) && decide (x.op<=8))=true:=by simp [h]
  have hcc:=m6 x;rw [hc] at hcc;rw [ND h];have hZ:=sY [x] n.z c ⟨[],0,0,[],[]⟩ (by simp) h1 h2 hz (by simp [aB]) (by simp [aB]);have hZ2:=hZ.fits (args:=[a7 [x],.agg (ch n.z),sI c,.agg [.c (.slice none 0 0),eI 0,eI 0,.c (.slice none 0 0),.c (.slice none 0 0)]]) ⟨.one (.refl _),.one (.refl _),.one (.refl _),.agg ⟨.nil 1,.refl _,.refl _,.nil 1,.nil 1,trivial⟩,trivial⟩
  repeat' first|refine gq ?_|decide|refine sp ?_ ?_<;>intro _|refine cA hcc ?_|fail
  refine ⟨rfl,?_⟩;refine nv [3] (R:=⟨.tup [eB (mA (bZ [x] n.z c ⟨[],0,0,[],[]⟩)),eI (xv (bZ [x] n.z c ⟨[],0,0,[],[]⟩))],[],0⟩) ?_ ?_ ?_
  .repeat' first|decide|refine go ?_
   exact hZ2
  .repeat' first|decide|refine go ?_
   left;simp [pi,yS,bV,dk]
  .repeat' first|refine gq ?_|decide|refine sp ?_ ?_<;>intro _
 .have hc:(decide (3<=x.op) && decide (x.op<=8))=false:=by
   cases hb:(decide (3<=x.op) && decide (x.op<=8))
   .rfl
   .exact absurd (by simpa using hb) h
  have hcc:=m6 x;rw [hc] at hcc;rw [Ny h];have hS:=nH n h3 h4;have hP:=Bi m (bj n) x hst hle hl hl2 hl3 ho hd hr hdid;have hP2:=hP.fits (args:=[.agg (aQ m),.agg [.c (.slice none 0 0),eI n.opn,eI n.don,sI n.did,sI n.cnt],.agg (eD x)]) ⟨.one (.refl _),.agg ⟨.nil 1,.refl _,.refl _,.refl _,.refl _,trivial⟩,.one (.refl _),trivial⟩
  repeat' first|refine go ?_|decide|refine sp ?_ ?_<;>intro _
  refine aw hcc ?_
  repeat' first|refine go ?_|decide|refine sp ?_ ?_<;>intro _
  refine aD [] [0,1,3] (.exec 2 (.exec 4 (.exec 5 .done))) (by kernel_rfl) (by simp [af.gc]) ?_
  repeat' first|refine gq ?_|decide|refine sp ?_ ?_<;>intro _|refine cA hS ?_|refine cA hP2 ?_|fail
end
section
theorem Hs (l:List fr) (k:Nat):(lp l k).Pairwise (· < ·):=List.Pairwise.filter _ List.pairwise_lt_range
theorem CY (l:List fr) (k:Nat) {i:Nat} (h:i ∈ lp l k):i<k:=by
 unfold lp at h;simp at h;exact h.1
def eu (z:Zn):List Nat:=lp z.cls z.cls.length
def x9 (z:Zn) (n:Int) (c:List Int) (r:Int):Prop:=
 ((0<=n /\ n<=31) /\ pm z.cls n ((bO c).length:Int) /\ ue z (cj r)) /\ ∀ i,i+1<(eu z).length -> mz z ((eu z).getD i 0) ((eu z).getD (i+1) 0) (cj r) ((bO c).getD i 0) ((bO c).getD (i+1) 0)
end
section
theorem oI (z:Zn) (p:Nat):cJ z p p=[]:=by
 unfold cJ;rw [List.drop_eq_nil_iff,NF];omega
theorem wt (z:Zn) {p q:Nat} {g:Int} (h:z.gaps[q]? = some g) (hpq:p<=q):cJ z p (q+1)=cJ z p q ++ [g]:=by
 have hq:q<z.gaps.length:=(Nw.1 h).1;unfold cJ;rw [PI,h,List.drop_append_of_le_length (by rw [NF];omega)];rfl
end
section
end
section
end
section
end
section
theorem Mh (a b:Nat) (ha:a<2 ^ 63) (hb:b<2 ^ 63):M3 (a:Int) (b:Int)=((a ||| b:Nat):Int):=by
 show IntKind.i64.wrap ((BitVec.ofInt 64 (a:Int) ||| BitVec.ofInt 64 (b:Int)).toNat:Int)=_;rw [BitVec.toNat_or,iy a (by omega),iy b (by omega)];exact vH _ (Nat.or_lt_two_pow ha hb)
theorem D4 (a b:Nat) (ha:a<2 ^ 63) (hb:b<2 ^ 63):Mu (a:Int) (b:Int)=((a &&& b:Nat):Int):=by
 show IntKind.i64.wrap ((BitVec.ofInt 64 (a:Int) &&& BitVec.ofInt 64 (b:Int)).toNat:Int)=_;rw [BitVec.toNat_and,iy a (by omega),iy b (by omega)];exact vH _ (Nat.lt_of_le_of_lt Nat.and_le_left (by omega))
def aN (x:fr):Nat:=x.attrs.toNat
theorem mW:∀ l:List fr,(∀ x ∈ l,0<=x.attrs /\ x.attrs<9223372036854775808) -> ∃ A:Nat,Ca l=(A:Int) /\ A<2 ^ 63 /\ ∀ q,A.testBit q=true ↔ ∃ x ∈ l,(aN x).testBit q=true:=fun L=>by
 induction hk:L.length using Nat.strongRecOn generalizing L with
 | _ k ih=>
  intro hL;rcases List.eq_nil_or_concat L with rfl|⟨l,m,rfl⟩
  .exact ⟨0,rfl,by decide,fun q=>by simp⟩
  .rw [List.concat_eq_append] at *;obtain ⟨A,h1,h2,h3⟩:=ih l.length (by simp at hk;omega) l rfl fun x hx=>hL x (List.mem_append_left _ hx);have hm:=hL m (by simp);have e1:m.attrs=((aN m:Nat):Int):=by unfold aN;omega
   have hlt:aN m<2 ^ 63:=by unfold aN;omega
   refine ⟨A ||| aN m,?_,Nat.or_lt_two_pow h2 hlt,fun q=>?_⟩
   .rw [Ce,h1,e1,Mh _ _ h2 hlt]
   .rw [Nat.testBit_or,PE,h3];simp only [NK,NR];constructor
    .rintro (⟨x,hx,hb⟩ | hb)
     .exact ⟨x,.inl hx,hb⟩
     .exact ⟨m,.inr rfl,hb⟩
    .rintro ⟨x,hx | rfl,hb⟩
     .exact .inl ⟨x,hx,hb⟩
     .exact .inr hb
structure ZB (l:List fr) (n:Nat):Prop where
 nn:∀ x ∈ l,0<=x.attrs /\ x.attrs<2147483648
 lt:∀ x ∈ l,∀ q,(aN x).testBit q=true -> q<n
 dis:∀ i j (hi:i<l.length) (hj:j<l.length) (q:Nat),(aN l[i]).testBit q=true -> (aN l[j]).testBit q=true -> i=j
 all:∀ q,q<n -> ∃ i,∃ h:i<l.length,(aN l[i]).testBit q=true
theorem ME {l:List fr} {n:Nat} {k:Int} (hn:n<=31) (h:pm l (n:Int) k) (hl:∀ x ∈ l,x.attrs<9223372036854775808):ZB l n:=by
 obtain ⟨h1,h2,_⟩:=h
 have hnn:∀ x ∈ l,0<=x.attrs /\ x.attrs<9223372036854775808:=fun x hx=>by
  obtain ⟨i,hi,rfl⟩:=NV hx;exact ⟨(h1 i hi).1,hl _ (Nt hi)⟩
 obtain ⟨A,hA,hAlt,hAb⟩:=mW l hnn
 have hA2:A=2 ^ n - 1:=by
  rw [hA] at h2;unfold l5 at h2;have e:(max 0 (min (n:Int) 31)).toNat=n:=by omega
  rw [e] at h2;have h3:1<=2 ^ n:=Nat.one_le_two_pow;have h4:((2 ^ n - 1:Nat):Int)=(2:Int) ^ n - 1:=by rw [Int.natCast_sub h3];simp
  omega
 have hlt:∀ x ∈ l,∀ q,(aN x).testBit q=true -> q<n:=fun x hx q hq=>by
  have:=(hAb q).2 ⟨x,hx,hq⟩;rw [hA2,Nat.testBit_two_pow_sub_one] at this;simpa using this
 have hlow:∀ i j (hi:i<l.length) (hj:j<l.length) (q:Nat),i<j -> (aN l[i]).testBit q=true -> (aN l[j]).testBit q=true -> False:=fun i j hi hj q hij h3 h4=>by
  have h5:=(h1 j hj).2.1;obtain ⟨B,hB,hBlt,hBb⟩:=mW (l.take j) fun x hx=>hnn x (N6 hx);have e1:l[j].attrs=((aN l[j]:Nat):Int):=by have:=hnn _ (Nt hj);unfold aN;omega
  have hlt2:aN l[j]<2 ^ 63:=by have:=hnn _ (Nt hj);unfold aN;omega
  rw [hB,e1,D4 _ _ hlt2 hBlt] at h5;have h6:aN l[j] &&& B=0:=by omega
  have h7:(aN l[j] &&& B).testBit q=true:=by
   rw [Nat.testBit_and,h4,(hBb q).2 ⟨l[i],List.mem_take_iff_getElem.2 ⟨i,by omega,rfl⟩,h3⟩];rfl
  rw [h6] at h7;simp at h7
 refine ⟨fun x hx=>⟨(hnn x hx).1,?_⟩,hlt,fun i j hi hj q h3 h4=>?_,fun q hq=>?_⟩
 .have:aN x<2 ^ 31:=Nat.lt_pow_two_of_testBit _ fun q hq=>by
   cases hb:(aN x).testBit q with
   | false=>rfl
   | true=>have:=hlt x hx q hb;omega
  have h0:=(hnn x hx).1;unfold aN at this;omega
 .rcases Pp i j with h5 | h5 | h5
  .exact (hlow i j hi hj q h5 h3 h4).elim
  .exact h5
  .exact (hlow j i hj hi q h5 h4 h3).elim
 .have:A.testBit q=true:=by
   rw [hA2,Nat.testBit_two_pow_sub_one];simpa using hq
  obtain ⟨x,hx,hb⟩:=(hAb q).1 this;obtain ⟨i,hi,rfl⟩:=NV hx;exact ⟨i,hi,hb⟩
theorem nf {l:List fr} (h:∀ i (h:i<l.length),DF (l.take i) l[i]):∀ k,k<=l.length -> (lp l k).length=eC (l.take k)
 | 0,_=>by simp [lp,eC]
 | k+1,hk=>by
  have ih:=nf h k (by omega);have hc:=(h k (by omega)).2.2.2;rw [kL l (by omega),Ns (by omega),qr];by_cases h1:l[k].const = -1
  .rw [Ny (by omega),ND h1];omega
  .rw [ND (by omega),Ny h1,NB,N4];omega
theorem vi (l:List fr) {i:Nat}:∀ d,i+d<=l.length -> ∃ t,lp l (i+d)=lp l i ++ t
 | 0,_=>⟨[],by simp⟩
 | d+1,hd=>by
  obtain ⟨t,ht⟩:=vi l (i:=i) d (by omega);rw [show i+(d+1)=i+d+1 by omega,kL l (by omega)];split
  .exact ⟨t ++ [i+d],by rw [ht,Oj]⟩
  .exact ⟨t,ht⟩
theorem KN {z:Zn} (h:∀ i (h:i<z.cls.length),DF (z.cls.take i) z.cls[i]) {i:Nat} (hi:i<z.cls.length) (hc:z.cls[i].const ≠ -1):∃ j:Nat,z.cls[i].const=(j:Int) /\ ∃ hj:j<(eu z).length,(eu z)[j]=i:=by
 have h1:=((h i hi).2.2.2).resolve_left hc;have h2:=nf h i (by omega);obtain ⟨t,ht⟩:=vi z.cls (i:=i+1) (z.cls.length - (i+1)) (by omega);rw [show i+1+(z.cls.length - (i+1))=z.cls.length by omega,kL z.cls hi,ND (by omega)] at ht;have e:eu z=lp z.cls i ++ [i] ++ t:=ht;refine ⟨(lp z.cls i).length,by omega,by rw [e];simp,?_⟩;simp [e]
end
end
section
section
def b8 (l:List fr) (a:Int):Nat:=l.countP fun x=>bk x.attrs a
theorem yf (l:List fr) (x:fr) (a:Int):b8 (l ++ [x]) a=b8 l a+(if bk x.attrs a=true then 1 else 0):=by
 unfold b8;rw [List.countP_append];cases h:bk x.attrs a<;>simp [h]
theorem C3 (l:List fr) (a:Int):b8 l a<=l.length:=List.countP_le_length
theorem KR (z:Zn) (a:Int) (h1:z.cls.length<=1000000) (hat:∀ x ∈ z.cls,aB x.attrs):ax Tryz.prog 192 [.agg (ch z),eI a] (val (.int .i64 (b8 z.cls a:Int))):=by
 refine aa ah Tryz.func192 rfl (by decide) Tryz.ntmps192 Tryz.results192 rfl (aH _) ?_
 repeat' first|refine go ?_|decide|refine sp ?_ ?_<;>intro _
 refine ae (fun st=>∃ (k:Nat) (s:Int),k<=z.cls.length /\ s=(b8 (z.cls.take k) a:Int) /\ st=⟨25,[(1,eI a),(2,.op 0 0 0),(5,eI s),(6,eI (k:Int))],[(0,some (.box 60 (ch z)))],1⟩) (fun st=>z.cls.length - aq st 6) ⟨_,wC,0,0,Nv _,rfl,rfl⟩ ?_;rintro _ ⟨k,s,hk,hs,rfl⟩;by_cases hlt:k<z.cls.length
 .have htk:b8 (z.cls.take (k+1)) a=b8 (z.cls.take k) a+(if bk z.cls[k].attrs a=true then 1 else 0):=by rw [Ns hlt,yf]
  have hle:=C3 (z.cls.take k) a;rw [NF] at hle;have hH:=cL z.cls[k].attrs a (hat _ (Nt hlt));generalize hc:z.cls[k]=c at *
  cases hb:bk c.attrs a with
  | true=>
   rw [hb] at hH;rw [hb,ND rfl] at htk;have ew:IntKind.i64.wrap (s+1)=s+1:=ar (by omega) (by omega)
   repeat' first|refine gq ?_|simp only [ab,hlt,hc,ew]|decide|refine sp ?_ ?_<;>intro _|refine cA hH ?_|fail
   all_goals exact rI (wE ew) ⟨k+1,s+1,by omega,by omega,rfl⟩
  | false=>
   rw [hb] at hH;rw [hb,Ny (by simp)] at htk
   repeat' first|refine gq ?_|simp only [ab,hlt,hc]|decide|refine sp ?_ ?_<;>intro _|refine cA hH ?_|fail
   all_goals exact rI wC ⟨k+1,s,by omega,by omega,rfl⟩
 .obtain rfl:k=z.cls.length:=by omega
  rw [NG] at hs;rw [<- hs]
  repeat' first|refine gf @hlt ?_|decide|refine sp ?_ ?_<;>intro _
def IT (l:List fr) (n:Int) (k:Nat):Bool:=(List.range k).all fun a=>decide ((b8 l (a:Int):Int)=if (a:Int)<n then 1 else 0)
theorem DY (l:List fr) (n:Int) (k:Nat):IT l n (k+1)=(IT l n k && decide ((b8 l (k:Int):Int)=if (k:Int)<n then 1 else 0)):=by
 unfold IT;rw [OL,List.all_append];simp
def n9 (l:List fr) (x:fr):Bool:=decide (0<=x.attrs) && decide (x.attrs<2147483648) && (decide (0<x.attrs) || decide (0<=x.const)) && (x.const == -1 || x.const == (eC l:Int))
def Gv (l:List fr) (n:Int) (k:Nat):Bool:=IT l n 31 && (List.range k).all fun i=>n9 (l.take i) (l.getD i ⟨0,0⟩)
theorem Dw (l:List fr) (n:Int) {k:Nat} (hk:k<l.length):Gv l n (k+1)=(Gv l n k && n9 (l.take k) l[k]):=by
 unfold Gv;rw [OL,List.all_append,Bool.and_assoc];simp [NA,Nq hk]
theorem AE (z:Zn) (n m:Int) (h1:z.cls.length<=1000000) (hat:∀ x ∈ z.cls,aB x.attrs):ax Tryz.prog 150 [.agg (ch z),eI n,eI m] (val (.bool (Gv z.cls n z.cls.length && decide ((eC z.cls:Int)=m)))):=by
  refine aa ah Tryz.func150 rfl (by decide) Tryz.ntmps150 Tryz.results150 rfl (aH _) ?_
  repeat' first|refine go ?_|decide|refine sp ?_ ?_<;>intro _
  refine ae (fun st=>∃ (k:Nat) (ok:Bool),k<=31 /\ ok=IT z.cls n k /\ st=⟨88,[(1,eI n),(2,eI m),(3,.op 0 0 0),(7,.c (.bool ok)),(8,eI (k:Int))],[(0,some (.box 60 (ch z)))],1⟩) (fun st=>31 - aq st 8) ⟨_,wC,0,true,Nv _,rfl,rfl⟩ ?_;rintro _ ⟨k,ok,hk,hok,rfl⟩;by_cases hlt:k<31
  . have d0:decide ((k:Int)<31)=true:=NL (by omega);have hs:=DY z.cls n k;rw [<- hok] at hs;have hS:=KR z (k:Int) h1 hat
    generalize (b8 z.cls (k:Int):Int)=s at *;by_cases g:(k:Int)<n
    . have d1:decide ((k:Int)<n)=true:=NL g;rw [ND g] at hs
      cases ok with
      | false=>
        repeat' first|refine gf (kf d0 d1) ?_|decide|refine sp ?_ ?_<;>intro _
        all_goals exact rI wC ⟨k+1,false,by omega,by rw [hs];rfl,rfl⟩
      | true=>
        have e1:(s == 1)=decide (s=1):=by by_cases h:s=1<;>simp [h]
        repeat' first|refine gf (kf d0 d1) ?_|decide|refine sp ?_ ?_<;>intro _|refine cA hS ?_|fail
        all_goals exact rI wC ⟨k+1,(s == 1),by omega,by rw [hs,e1];rfl,rfl⟩
    . have d1:decide ((k:Int)<n)=false:=NE g;rw [Ny g] at hs
      cases ok with
      | false=>
        repeat' first|refine gf (kf d0 d1) ?_|decide|refine sp ?_ ?_<;>intro _
        all_goals exact rI wC ⟨k+1,false,by omega,by rw [hs];rfl,rfl⟩
      | true=>
        have e1:(s == 0)=decide (s=0):=by by_cases h:s=0<;>simp [h]
        repeat' first|refine gf (kf d0 d1) ?_|decide|refine sp ?_ ?_<;>intro _|refine cA hS ?_|fail
        all_goals exact rI wC ⟨k+1,(s == 0),by omega,by rw [hs,e1];rfl,rfl⟩
  obtain rfl:k=31:=by omega
  have d0:decide (((31:Nat):Int)<31)=false:=rfl
  repeat' first|refine gf d0 ?_|decide|refine sp ?_ ?_<;>intro _
  clear hk;refine ae (fun st=>∃ (i:Nat) (o:Bool) (x:Int),i<=z.cls.length /\ o=Gv z.cls n i /\ x=(eC (z.cls.take i):Int) /\ st=⟨88,[(1,eI n),(2,eI m),(3,.op 0 0 0),(7,.c (.bool o)),(9,eI x),(10,eI (i:Int))],[(0,some (.box 60 (ch z)))],1⟩) (fun st=>z.cls.length - aq st 10) ⟨_,wC,0,ok,0,Nv _,by rw [hok];simp [Gv],rfl,rfl⟩ ?_;rintro _ ⟨i,o,x,hi,ho,hx,rfl⟩;by_cases hlt:i<z.cls.length
  . have hnx:(eC (z.cls.take (i+1)):Int)=x+(if z.cls[i].const = -1 then 0 else 1):=by rw [Ns hlt,qr,hx];split<;>simp
    have hnl:x<=1000000:=by have:=EU (z.cls.take i);rw [NF] at this;omega
    have hs:=Dw z.cls n hlt;rw [<- ho] at hs;unfold n9 at hs;rw [<- hx] at hs;have hx0:0<=x:=(by omega);clear hx ho;generalize hc:z.cls[i]=c at *;obtain ⟨g1,d1⟩:∃ b,decide (0<=c.attrs)=b:=⟨_,rfl⟩;obtain ⟨g2,d2⟩:∃ b,decide (c.attrs<2147483648)=b:=⟨_,rfl⟩;obtain ⟨g3,d3⟩:∃ b,decide (0<c.attrs)=b:=⟨_,rfl⟩;obtain ⟨g4,d4⟩:∃ b,decide (0<=c.const)=b:=⟨_,rfl⟩;obtain ⟨g5,d5⟩:∃ b,(c.const == -1)=b:=⟨_,rfl⟩;obtain ⟨g6,d6⟩:∃ b,(c.const == x)=b:=⟨_,rfl⟩;have d7:(c.const != -1) = !g5:=by rw [<- d5];rfl
    have ew:IntKind.i64.wrap (x+1)=x+1:=ar (by omega) (by omega);rw [d1,d2,d3,d4,d5,d6] at hs
    have hnx2:(eC (z.cls.take (i+1)):Int)=if g5=true then x else x+1:=by
      rw [hnx,<- d5];by_cases h:c.const = -1<;>simp [h]
    clear hnx;cases o<;>cases g5
    . (repeat' (first|refine gq ?_|simp only [ab,hlt,hc,d7,PN,Bool.not_true,ew]|decide|refine sp ?_ ?_<;>intro _))
      all_goals exact rI (wE ew) ⟨i+1,false,x+1,by omega,by rw [hs];rfl,by rw [hnx2];rfl,rfl⟩
    . (repeat' (first|refine gq ?_|simp only [ab,hlt,hc,d7,PN,Bool.not_true,ew]|decide|refine sp ?_ ?_<;>intro _))
      all_goals exact rI (wE ew) ⟨i+1,false,x,by omega,by rw [hs];rfl,by rw [hnx2];rfl,rfl⟩
    . cases g1<;>cases g2<;>cases g3<;>cases g4<;>cases g6 <;>
      ((repeat' (first|refine gq ?_|simp only [ab,hlt,hc,d1,d2,d3,d4,d5,d6,d7,PN,Bool.not_true,ew]|decide|refine sp ?_ ?_<;>intro _))
       all_goals first|exact rI (wE ew) ⟨i+1,true,x+1,by omega,by rw [hs];rfl,by rw [hnx2];rfl,rfl⟩|exact rI (wE ew) ⟨i+1,false,x+1,by omega,by rw [hs];rfl,by rw [hnx2];rfl,rfl⟩)
    . cases g1<;>cases g2<;>cases g3<;>cases g4 <;>
      ((repeat' (first|refine gq ?_|simp only [ab,hlt,hc,d1,d2,d3,d4,d5,d7,PN,Bool.not_true,ew]|decide|refine sp ?_ ?_<;>intro _))
       all_goals first|exact rI (wE ew) ⟨i+1,true,x,by omega,by rw [hs];rfl,by rw [hnx2];rfl,rfl⟩|exact rI (wE ew) ⟨i+1,false,x,by omega,by rw [hs];rfl,by rw [hnx2];rfl,rfl⟩)
  . obtain rfl:i=z.cls.length:=by omega
    rw [NG] at hx;have e1:decide ((eC z.cls:Int)=m)=(x == m):=by rw [hx];by_cases h:(eC z.cls:Int)=m<;>simp [h]
    rw [e1,<- ho]
    cases o with
    | false=>
      repeat' first|refine gf @hlt ?_|decide|refine sp ?_ ?_<;>intro _
      all_goals simp
    | true=>
      repeat' first|refine gf @hlt ?_|decide|refine sp ?_ ?_<;>intro _
      all_goals simp
end
section
theorem gM {x:fr} (h:0<=x.attrs /\ x.attrs<2147483648) {a:Nat} (ha:a<31):bk x.attrs (a:Int)=(aN x).testBit a:=by
 rw [cQ _ _ ha]
 congr 1
 unfold lr aN;omega
theorem Dd {l:List fr} {a:Int} {i j:Nat} (hij:i<j) (hj:j<l.length) (h1:bk (l[i]'(by omega)).attrs a=true) (h2:bk l[j].attrs a=true):2<=b8 l a:=by
 have e:b8 l a=b8 (l.take j) a+b8 (l.drop j) a:=by
  unfold b8;rw [<- List.countP_append,PB]
 have p1:0<b8 (l.take j) a:=PL.2 ⟨l[i],List.mem_take_iff_getElem.2 ⟨i,by omega,rfl⟩,h1⟩;have p2:0<b8 (l.drop j) a:=PL.2 ⟨l[j],by rw [List.drop_eq_getElem_cons hj];exact Ob ..,h2⟩;omega
theorem oT {a:Int}:∀ l:List fr,(∀ i j (hi:i<l.length) (hj:j<l.length),bk l[i].attrs a=true -> bk l[j].attrs a=true -> i=j) -> b8 l a<=1
 | [],_=>by simp [b8]
 | x :: l,h=>by
  have ih:=oT l fun i j hi hj h1 h2=>by
   have:=h (i+1) (j+1) (by simpa using hi) (by simpa using hj) (by simpa using h1) (by simpa using h2);omega
  by_cases hx:bk x.attrs a=true
  .have hz:b8 l a=0:=List.countP_eq_zero.2 fun y hy hb=>by
    obtain ⟨j,hj,rfl⟩:=NV hy;have:=h 0 (j+1) (by simp) (by simpa using hj) (by simpa using hx) (by simpa using hb);omega
   unfold b8 at *;rw [List.countP_cons,hz,ND hx];exact Nz _
  .unfold b8 at *;rw [List.countP_cons,Ny hx];exact ih
theorem Ai (l:List fr) (n:Int) (k:Nat):IT l n k=true ↔ ∀ a:Nat,a<k -> (b8 l (a:Int):Int)=if (a:Int)<n then 1 else 0:=by
 unfold IT;rw [List.all_eq_true];simp only [Pc,NW]
theorem lO (l:List fr) (x:fr):n9 l x=true ↔ (0<=x.attrs /\ x.attrs<2147483648) /\ (0<x.attrs \/ 0<=x.const) /\ (x.const = -1 \/ x.const=(eC l:Int)):=by
 unfold n9;simp only [NU,PE,NW,O2];constructor
 .rintro ⟨⟨⟨h1,h2⟩,h3⟩,h4⟩;exact ⟨⟨h1,h2⟩,h3,h4⟩
 .rintro ⟨⟨h1,h2⟩,h3,h4⟩;exact ⟨⟨⟨h1,h2⟩,h3⟩,h4⟩
theorem zw (l:List fr) (n:Int):Gv l n l.length=true ↔ IT l n 31=true /\ ∀ i (h:i<l.length),n9 (l.take i) l[i]=true:=by
 unfold Gv;rw [NU,List.all_eq_true];constructor
 .rintro ⟨h1,h2⟩;refine ⟨h1,fun i h=>?_⟩;have:=h2 i (Pc.2 h)
  rwa [NA,Nq h] at this
 .rintro ⟨h1,h2⟩;refine ⟨h1,fun i h=>?_⟩;have:=h2 i (Pc.1 h)
  rwa [NA,Nq (Pc.1 h)]
theorem p3 (l:List fr) (n:Nat) (m:Int) (hn:n<=31) (hat:∀ x ∈ l,x.attrs<9223372036854775808):(Gv l (n:Int) l.length && decide ((eC l:Int)=m))=true ↔ pm l (n:Int) m:=by
 rw [NU,NW,zw,Ai];constructor
 .rintro ⟨⟨hA,hC⟩,hm⟩;have hc:=fun i h=>(lO _ _).1 (hC i h)
  have hnn:∀ x ∈ l,0<=x.attrs /\ x.attrs<2147483648:=fun x hx=>by
   obtain ⟨i,hi,rfl⟩:=NV hx;exact (hc i hi).1
  have hb31:∀ x ∈ l,∀ q,(aN x).testBit q=true -> q<31:=fun x hx q hq=>by
   rcases NP q 31 with h|h
   .exact h
   .have h2:aN x<2 ^ q:=NH (show aN x<2 ^ 31 by have:=hnn x hx;unfold aN;omega) (Od (by omega) h);rw [O0 h2] at hq;cases hq
  have hdis:∀ i j (hi:i<l.length) (hj:j<l.length) (q:Nat),i<j -> (aN l[i]).testBit q=true -> (aN l[j]).testBit q=true -> False:=fun i j hi hj q hij h1 h2=>by
   have hq:=hb31 _ (Nt hi) q h1;rw [<- gM (hnn _ (Nt hi)) hq] at h1;rw [<- gM (hnn _ (Nt hj)) hq] at h2;have:=Dd hij hj h1 h2;have h5:=hA q hq;split at h5<;>omega
  refine ⟨fun i h=>⟨(hc i h).1.1,?_,?_,(hc i h).2.2⟩,?_,hm⟩
  .obtain ⟨B,hB,hBlt,hBb⟩:=mW (l.take i) fun x hx=>by have:=hnn x (N6 hx);omega
   have h0:=(hc i h).1;have e1:l[i].attrs=((aN l[i]:Nat):Int):=by unfold aN;omega
   rw [hB,e1,D4 _ _ (by unfold aN;omega) hBlt]
   have:aN l[i] &&& B=0:=Nat.eq_of_testBit_eq fun q=>by
    rw [Nat.zero_testBit,Nat.testBit_and]
    cases h1:(aN l[i]).testBit q with
    | false=>rfl
    | true=>
     cases h2:B.testBit q with
     | false=>rfl
     | true=>
      obtain ⟨x,hx,hb⟩:=(hBb q).1 h2;obtain ⟨j,hj,rfl⟩:=List.mem_take_iff_getElem.1 hx;exact (hdis j i (by omega) h q (by omega) hb h1).elim
   rw [this];rfl
  .rintro ⟨h1,h2⟩;have:=(hc i h).2.1;omega
  .obtain ⟨A,hA1,hA2,hA3⟩:=mW l fun x hx=>by have:=hnn x hx;omega
   have e:(max 0 (min (n:Int) 31)).toNat=n:=(by omega);have h3:1<=2 ^ n:=Nat.one_le_two_pow;have h4:((2 ^ n - 1:Nat):Int)=(2:Int) ^ n - 1:=by rw [Int.natCast_sub h3];simp
   rw [hA1];unfold l5;rw [e,<- h4]
   congr 1
   refine Nat.eq_of_testBit_eq fun q=>?_;rw [Nat.testBit_two_pow_sub_one];rw [O7,hA3,NW];constructor
   .rintro ⟨x,hx,hb⟩;have hq:=hb31 x hx q hb;rw [<- gM (hnn x hx) hq] at hb;have h5:=hA q hq;have h6:0<b8 l (q:Int):=PL.2 ⟨x,hx,hb⟩;split at h5<;>omega
   .intro hq;have h5:=hA q (by omega);rw [ND (by omega)] at h5;obtain ⟨x,hx,hb⟩:=PL.1 (show 0<b8 l (q:Int) by omega);rw [gM (hnn x hx) (by omega)] at hb;exact ⟨x,hx,hb⟩
 .intro h;have hB:=ME hn h hat
  refine ⟨⟨fun a ha=>?_,fun i hi=>(lO _ _).2 ⟨hB.nn _ (Nt hi),?_,(h.1 i hi).2.2.2⟩⟩,h.2.2⟩
  .have hle:=oT (a:=(a:Int)) l fun i j hi hj h1 h2=>by
    rw [gM (hB.nn _ (Nt hi)) ha] at h1;rw [gM (hB.nn _ (Nt hj)) ha] at h2;exact hB.dis i j hi hj a h1 h2
   split
   .obtain ⟨i,hi,hb⟩:=hB.all a (by omega);rw [<- gM (hB.nn _ (Nt hi)) ha] at hb;have h6:0<b8 l (a:Int):=PL.2 ⟨_,Nt hi,hb⟩;omega
   .have:b8 l (a:Int)=0:=List.countP_eq_zero.2 fun x hx hb=>by
     rw [gM (hB.nn x hx) ha] at hb;have:=hB.lt x hx a hb;omega
    omega
  .have h1:=(h.1 i hi).2.2;have h2:=(h.1 i hi).1;rcases h1.2 with h3|h3
   .have:¬ l[i].attrs=0:=fun h4=>h1.1 ⟨h4,h3⟩;omega
   .omega
end
section
theorem LF (z:Zn) (p q:Nat) (cap a b:Int) (hpq:p<q) (hq:q<=z.gaps.length) (h2:z.gaps.length<=40) (hg:∀ i (h:i<z.gaps.length),0<=z.gaps[i] /\ z.gaps[i]<=cap) (hcap:0<=cap /\ cap<=1048576) (ha:aB a) (hb:aB b) :
  dn Tryz.prog 151 [.agg (ch z),eI (p:Int),eI (q:Int),eI cap,eI a,eI b] fun R=>∃ t,R=val (.bool t) /\ (t=true ↔ mz z p q cap a b):=by
 refine aM ah Tryz.func151 rfl (by decide) Tryz.ntmps151 Tryz.results151 rfl ?_;unfold mz
 have hsb:∀ k,p<=k -> k<=q -> 0<=(cJ z p k).sum /\ (cJ z p k).sum<=42000000:=fun k h1 h2k=>by
  have h:=Ew cap hcap.1 (cJ z p k) fun g hgm=>by
   obtain ⟨i,hi,rfl⟩:=NV (N6 (OH hgm));exact hg i hi
  have h5:((cJ z p k).length:Int)<=40:=by unfold cJ;rw [Ov,NF];omega
  have h6:cap * ((cJ z p k).length:Int)<=1048576 * 40:=Int.mul_le_mul hcap.2 h5 (by omega) (by omega);omega
 have e1:IntKind.i64.wrap ((q:Int) - (p:Int))=(q:Int) - p:=ar (by omega) (by omega);obtain ⟨B,hB⟩:∃ B,(q:Int) - p - 1=B:=⟨_,rfl⟩;have e2:IntKind.i64.wrap ((q:Int) - (p:Int) - 1)=B:=by rw [hB];exact ar (by omega) (by omega)
 rw [hB];have hB1:0<=B /\ B<=40:=by omega
 repeat' first|refine ge (kf e1 e2) ?_|decide|refine sp ?_ ?_<;>intro _
 refine ae (fun st=>∃ (k:Nat) (s:Int) (w:Bool),p<=k /\ k<=q /\ s=B+(cJ z p k).sum /\ (w=true ↔ ∃ g ∈ cJ z p k,g=cap) /\ st=⟨60,[(2,eI (q:Int)),(3,eI cap),(4,eI a),(5,eI b),(6,.op 0 0 0),(13,eI s),(14,.c (.bool w)),(15,eI (k:Int))],[(0,some (.box 60 (ch z)))],1⟩) (fun st=>q - aq st 15) ⟨_,(wE (kf e1 e2)),p,B,false,Nz _,by omega,by rw [oI];simp,by rw [oI];simp,rfl⟩ ?_;rintro _ ⟨k,s,w,hpk,hk,hs,hw,rfl⟩;by_cases hlt:k<q
 .have hkg:k<z.gaps.length:=by omega
  have htk:cJ z p (k+1)=cJ z p k ++ [z.gaps[k]]:=wt z (Nq hkg) hpk;have h5:=hsb k hpk (by omega);have h6:=hsb (k+1) (by omega) (by omega);rw [htk,List.sum_append,List.sum_singleton] at h6;have d0:decide ((k:Int)<(q:Int))=true:=NL (by omega);have es:IntKind.i64.wrap (s+z.gaps[k])=s+z.gaps[k]:=ar (by omega) (by omega);have hs2:s+z.gaps[k]=B+(cJ z p (k+1)).sum:=by rw [htk,List.sum_append,List.sum_singleton];omega
  have hw2:(w || z.gaps[k] == cap)=true ↔ ∃ g ∈ cJ z p (k+1),g=cap:=by
   rw [htk,PE,hw];simp only [NK,NR,O2];constructor
   .rintro (⟨g,h1,h2⟩ | h)
    .exact ⟨g,.inl h1,h2⟩
    .exact ⟨_,.inr rfl,h⟩
   .rintro ⟨g,h1 | rfl,h2⟩
    .exact .inl ⟨g,h1,h2⟩
    .exact .inr h2
  clear hw hs hsb htk hg;generalize hgk:z.gaps[k]=g at *
  cases w with
  | true=>
   repeat' first|refine gq ?_|simp only [ab,hkg,hgk,hlt,es]|decide|refine sp ?_ ?_<;>intro _
   all_goals exact rI (wE es) ⟨k+1,s+g,true,by omega,by omega,hs2,by simpa using hw2,rfl⟩
  | false=>
   by_cases hgc:g=cap
   .have d1:(g == cap)=true:=by simpa using hgc
    repeat' first|refine gq ?_|simp only [ab,hkg,hgk,hlt,es,d1]|decide|refine sp ?_ ?_<;>intro _
    all_goals exact rI (wE (kf es d1)) ⟨k+1,s+g,true,by omega,by omega,hs2,by rw [<- hw2,d1];rfl,rfl⟩
   .have d1:(g == cap)=false:=by simpa using hgc
    repeat' first|refine gq ?_|simp only [ab,hkg,hgk,hlt,es,d1]|decide|refine sp ?_ ?_<;>intro _
    all_goals exact rI (wE (kf es d1)) ⟨k+1,s+g,false,by omega,by omega,hs2,by rw [<- hw2,d1];rfl,rfl⟩
 .obtain rfl:k=q:=by omega
  have d0:decide ((k:Int)<(k:Int))=false:=by simp
  have h5:=hsb k hpk (Nz _);have es:IntKind.i64.wrap (s+1)=s+1:=ar (by omega) (by omega);have hG:=IE a b (s+1) ha hb (by omega);rw [<- hs];by_cases g1:mY a b (s+1)=s
  .have d1:(mY a b (s+1) == s)=true:=by simpa using g1
   repeat' first|refine gf (kf @hlt (kf es d1)) ?_|decide|refine sp ?_ ?_<;>intro _|refine cA hG ?_|fail
   all_goals exact ca ⟨true,rfl,by simp [g1]⟩
  .have d1:(mY a b (s+1) == s)=false:=by simpa using g1
   cases w with
   | true=>
    repeat' first|refine gf (kf @hlt (kf es d1)) ?_|decide|refine sp ?_ ?_<;>intro _|refine cA hG ?_|fail
    all_goals exact ca ⟨_,rfl,by simp at hw;simp [g1,hw]⟩
   | false=>
    repeat' first|refine gf (kf @hlt (kf es d1)) ?_|decide|refine sp ?_ ?_<;>intro _|refine cA hG ?_|fail
    all_goals exact ca ⟨_,rfl,by simp at hw;simp [g1,hw]⟩
theorem Ay (z:Zn) (n:Int) (c:List Int) (r:Int) (h1:z.cls.length<=40) (h2:z.gaps.length<=40) (h3:c.length<=100000) (hc:∀ x ∈ c,aB x) (hr:cj r<=1048576) (hat:∀ x ∈ z.cls,aB x.attrs):dn Tryz.prog 122 [.agg (ch z),eI n,sI c,eI r] fun R=>∃ b,R=val (.bool b) /\ (b=true ↔ x9 z n c r):=by
 refine aM ah Tryz.func122 rfl (by decide) Tryz.ntmps122 Tryz.results122 rfl ?_;have hS:=fg c (by omega);have hCap:=s0 r;have hcap0:=LW r;have hsl:=d9 c;have hso:∀ x ∈ bO c,aB x:=fun x hx=>hc x (((dL c).2 x).1 hx);unfold x9;generalize bO c=sc at *;generalize cj r=cap at *;by_cases g1:0<=n
 .have d1:decide (n<0)=false:=by simpa using g1
  by_cases g2:n<=31
  .have d2:decide (31<n)=false:=(by simpa using g2);obtain ⟨m,rfl⟩:∃ m:Nat,n=(m:Int):=⟨n.toNat,by omega⟩;have hC:=AE z (m:Int) (sc.length:Int) (by omega) hat
   have hfd:=p3 z.cls m (sc.length:Int) (by omega) fun x hx=>by have:=hat x hx;unfold aB at this;omega
   generalize (Gv z.cls (m:Int) z.cls.length && decide ((eC z.cls:Int)=(sc.length:Int)))=t1 at *;rw [<- hfd]
   cases t1 with
   | false=>
    repeat' first|refine gf (kf d1 d2) ?_|decide|refine sp ?_ ?_<;>intro _|refine cA hS ?_|refine cA hC ?_|fail
    all_goals exact ca ⟨false,rfl,by simp⟩
   | true=>
    have hF:=hfd.1 rfl;have e1:IntKind.i64.wrap ((z.cls.length:Int) - 1)=(z.cls.length:Int) - 1:=ar (by omega) (by omega);by_cases g3:(z.gaps.length:Int)=max ((z.cls.length:Int) - 1) 0
    .have d3:((z.gaps.length:Int) != max ((z.cls.length:Int) - 1) 0)=false:=by simp [g3]
     repeat' first|refine gf (kf d1 (kf d2 (kf d3 e1))) ?_|decide|refine sp ?_ ?_<;>intro _|refine cA hS ?_|refine cA hC ?_|fail
     refine ae (fun st=>∃ i:Nat,i<=z.gaps.length /\ (∀ j (h:j<z.gaps.length),j<i -> 0<=z.gaps[j] /\ z.gaps[j]<=cap) /\ st=⟨100,[(3,eI r),(4,.op 0 0 0),(9,sI sc),(10,eI (-1)),(11,eI (i:Int))],[(0,some (.box 60 (ch z)))],1⟩) (fun st=>z.gaps.length - aq st 11) ⟨_,wC,0,Nv _,fun j _ h=>by omega,rfl⟩ ?_;rintro _ ⟨i,hi,hok,rfl⟩;by_cases hlt:i<z.gaps.length
     .have hno:¬ (0<=z.gaps[i] /\ z.gaps[i]<=cap) -> ¬ ue z cap:=fun h h2=>h (h2.2 i hlt)
      have hok2:(0<=z.gaps[i] /\ z.gaps[i]<=cap) -> ∀ j (h:j<z.gaps.length),j<i+1 -> 0<=z.gaps[j] /\ z.gaps[j]<=cap:=fun h j hj hji=>by
       rcases NP j i with h2|h2
       .exact hok j hj h2
       .obtain rfl:j=i:=by omega
        exact h
      generalize hg:z.gaps[i]=g at *;by_cases g4:g<0
      .have d4:decide (g<0)=true:=by simpa using g4
       repeat' first|refine gq ?_|simp only [ab,hlt,hg,d4]|decide|refine sp ?_ ?_<;>intro _|refine cA hCap ?_|fail
       all_goals exact ca ⟨false,rfl,by simp;exact fun _ h=>(hno (by omega) h).elim⟩
      .have d4:decide (g<0)=false:=(by simpa using g4);by_cases g5:cap<g
       .have d5:decide (cap<g)=true:=by simpa using g5
        repeat' first|refine gq ?_|simp only [ab,hlt,hg,d4,d5]|decide|refine sp ?_ ?_<;>intro _|refine cA hCap ?_|fail
        all_goals exact ca ⟨false,rfl,by simp;exact fun _ h=>(hno (by omega) h).elim⟩
       .have d5:decide (cap<g)=false:=by simpa using g5
        repeat' first|refine gq ?_|simp only [ab,hlt,hg,d4,d5]|decide|refine sp ?_ ?_<;>intro _|refine cA hCap ?_|fail
        all_goals exact rI wC ⟨i+1,by omega,hok2 ⟨by omega,by omega⟩,rfl⟩
     obtain rfl:i=z.gaps.length:=by omega
     have hG:ue z cap:=⟨g3,fun j hj=>hok j hj hj⟩
     repeat' first|refine gf @hlt ?_|decide|refine sp ?_ ?_<;>intro _
     clear hok hi
     have hFl:(eu z).length=sc.length:=by
      have e1:=nf hF.1 z.cls.length (Nz _);rw [NG] at e1;have e2:=hF.2.2;unfold eu;omega
     have hlt2:∀ i ∈ eu z,i<z.cls.length:=fun i hi=>CY _ _ hi;have hgl:=hG.1
     have hRoom:∀ i,i+1<(eu z).length -> ∃ t:Bool,(t=true ↔ mz z ((eu z).getD i 0) ((eu z).getD (i+1) 0) cap (sc.getD i 0) (sc.getD (i+1) 0)) /\ ax Tryz.prog 151 [.agg (ch z),eI (((eu z).getD i 0:Nat):Int),eI (((eu z).getD (i+1) 0:Nat):Int),eI cap,eI (sc.getD i 0),eI (sc.getD (i+1) 0)] (val (.bool t)):=fun i hi=>by
      have e1:(eu z).getD i 0=(eu z)[i]:=by rw [NA,Nq (by omega)];rfl
      have e2:(eu z).getD (i+1) 0=(eu z)[i+1]:=by rw [NA,Nq (by omega)];rfl
      have e3:sc.getD i 0=sc[i]:=by rw [NA,Nq (by omega)];rfl
      have e4:sc.getD (i+1) 0=sc[i+1]:=by rw [NA,Nq (by omega)];rfl
      have h5:=O1.1 (Hs z.cls z.cls.length) i (i+1) (by unfold eu at hi;omega) (by unfold eu at hi;omega) (by omega);have h6:=hlt2 _ (Nt hi);exact ki (LF z _ _ cap _ _ (by rw [e1,e2];exact h5) (by rw [e2];omega) h2 hG.2 ⟨hcap0,hr⟩ (by rw [e3];exact hso _ (Nt _)) (by rw [e4];exact hso _ (Nt _)))
     refine ae (fun st=>∃ (i m:Nat) (w:Int),i<=z.cls.length /\ m=(lp z.cls i).length /\ ((m=0 /\ w = -1) \/ (0<m /\ w=(((eu z).getD (m - 1) 0:Nat):Int))) /\ (∀ j,j+1<m -> mz z ((eu z).getD j 0) ((eu z).getD (j+1) 0) cap (sc.getD j 0) (sc.getD (j+1) 0)) /\ st=⟨100,[(3,eI r),(4,.op 0 0 0),(9,sI sc),(10,eI w),(12,eI (i:Int))],[(0,some (.box 60 (ch z)))],1⟩) (fun st=>z.cls.length - aq st 12) ⟨_,wC,0,0,-1,Nv _,rfl,.inl ⟨rfl,rfl⟩,fun j h=>by omega,rfl⟩ ?_;rintro _ ⟨i,m',w,hi,hm,hw,hok,rfl⟩;by_cases hlt:i<z.cls.length
     .have hsn:=kL z.cls hlt;have hn1:=nf hF.1 i (by omega);have hfa:=KN hF.1 hlt;have hco:=(hF.1 i hlt).2.2.2;generalize hcc:z.cls[i]=c at *;by_cases g4:c.const = -1
      .have d4:decide (c.const<0)=true:=by rw [g4];rfl
       rw [Ny (by omega)] at hsn
       repeat' first|refine gq ?_|simp only [ab,hlt,hcc,d4]|decide|refine sp ?_ ?_<;>intro _
       all_goals exact rI wC ⟨i+1,m',w,by omega,by rw [hsn];exact hm,hw,hok,rfl⟩
      .have hco2:=hco.resolve_left g4;obtain ⟨j,hj1,hj2,hj3⟩:=hfa g4;obtain rfl:m'=j:=by omega
       have d4:decide (c.const<0)=false:=by rw [hj1];simp
       rw [ND (by omega)] at hsn;have hm2:m'+1=(lp z.cls (i+1)).length:=by rw [hsn,NB,<- hm];rfl
       have hwi:((0=m'+1 /\ (i:Int) = -1) \/ (0<m'+1 /\ (i:Int)=(((eu z).getD (m'+1 - 1) 0:Nat):Int))):=.inr ⟨by omega,by rw [O9,NA,Nq hj2,NX,hj3]⟩;rcases hw with ⟨hm0,hw0⟩|⟨hm0,hw0⟩
       .subst hw0
        repeat' first|refine gq ?_|simp only [ab,hlt,hcc,d4,Int.reduceLE,Int.reduceLT,Int.reduceNeg]|decide|refine sp ?_ ?_<;>intro _|refine cA hCap ?_|fail
        all_goals exact rI wC ⟨i+1,m'+1,i,by omega,hm2,by omega,fun j h=>by omega,rfl⟩
       .obtain ⟨k,rfl⟩:∃ k,m'=k+1:=⟨m' - 1,by omega⟩;obtain ⟨t,ht,hR⟩:=hRoom k hj2;have hi2:(eu z).getD (k+1) 0=i:=(by rw [NA,Nq hj2,NX,hj3]);have hs0:k<sc.length:=(by omega);have hs1:k+1<sc.length:=(by omega);have e3:sc.getD k 0=sc[k]:=by rw [NA,Nq hs0];rfl
        have e4:sc.getD (k+1) 0=sc[k+1]:=by rw [NA,Nq hs1];rfl
        rw [O9] at hw0
        have hok2:mz z ((eu z).getD k 0) ((eu z).getD (k+1) 0) cap (sc.getD k 0) (sc.getD (k+1) 0) -> ∀ i,i+1<k+1+1 -> mz z ((eu z).getD i 0) ((eu z).getD (i+1) 0) cap (sc.getD i 0) (sc.getD (i+1) 0):=fun h i h1=>by
         rcases NP i k with h3|h3
         .exact hok i (by omega)
         .obtain rfl:i=k:=by omega
          exact h
        have hno:¬ mz z ((eu z).getD k 0) ((eu z).getD (k+1) 0) cap (sc.getD k 0) (sc.getD (k+1) 0) -> ¬ ∀ i,i+1<(eu z).length -> mz z ((eu z).getD i 0) ((eu z).getD (i+1) 0) cap (sc.getD i 0) (sc.getD (i+1) 0):=fun h h2=>h (h2 k hj2);rw [<- ht] at hok2 hno;rw [<- hw0,hi2,e3,e4] at hR;have f1:sc[k]? = some sc[k]:=Nq hs0;have f2:sc[k+1]? = some sc[k+1]:=Nq hs1;have hw1:0<=w:=(by omega);have d5:decide (0<=w)=true:=NL hw1;have d4b:decide (((k+1:Nat):Int)<0)=false:=by simp only [NQ];omega
        have e5:IntKind.i64.wrap (((k+1:Nat):Int) - 1)=(k:Int):=by rw [ar (by omega) (by omega)];omega
        clear hRoom ht hok hco hfa e3 e4;obtain ⟨x3,hx3⟩:∃ x,sc[k]=x:=⟨_,rfl⟩;obtain ⟨x4,hx4⟩:∃ x,sc[k+1]=x:=⟨_,rfl⟩;rw [hx3,hx4] at hR
        cases t with
        | true=>
         repeat' first|refine gq ?_|simp only [ab,hlt,hcc,d4b,d5,hj1,hs0,hs1,hx3,hx4,e5]|decide|refine sp ?_ ?_<;>intro _|refine cA hCap ?_|refine cA hR ?_|fail
         all_goals exact rI wC ⟨i+1,k+1+1,i,by omega,hm2,by omega,hok2 rfl,rfl⟩
        | false=>
         repeat' first|refine gq ?_|simp only [ab,hlt,hcc,d4b,d5,hj1,hs0,hs1,hx3,hx4,e5]|decide|refine sp ?_ ?_<;>intro _|refine cA hCap ?_|refine cA hR ?_|fail
         all_goals exact ca ⟨false,rfl,⟨fun h=>(by cases h),fun h=>absurd h.2 (hno (by simp))⟩⟩
     .obtain rfl:i=z.cls.length:=by omega
      repeat' first|refine gf @hlt ?_|decide|refine sp ?_ ?_<;>intro _
      all_goals exact ca ⟨true,rfl,by simp;exact ⟨⟨by omega,hG⟩,fun i h=>hok i (by rw [hm];exact h)⟩⟩
    .have d3:((z.gaps.length:Int) != max ((z.cls.length:Int) - 1) 0)=true:=by simpa using g3
     repeat' first|refine gf (kf d1 (kf d2 (kf d3 e1))) ?_|decide|refine sp ?_ ?_<;>intro _|refine cA hS ?_|refine cA hC ?_|fail
     all_goals exact ca ⟨false,rfl,by simp;exact fun _ h=>(g3 h.1).elim⟩
  .have d2:decide (31<n)=true:=by simpa using g2
   repeat' first|refine gf (kf d1 d2) ?_|decide|refine sp ?_ ?_<;>intro _|refine cA hS ?_|fail
   all_goals exact ca ⟨false,rfl,by simp;omega⟩
 .have d1:decide (n<0)=true:=by simpa using g1
  repeat' first|refine gf d1 ?_|decide|refine sp ?_ ?_<;>intro _|refine cA hS ?_|fail
  all_goals exact ca ⟨false,rfl,by simp;omega⟩
end
section
end
section
theorem CD (l:List al) (h:∀ x ∈ l,x.ok):∀ n ∈ b7 l,aB n:=fun n hn=>by
 obtain ⟨x,hx,hm⟩:=Ow.1 hn;have hxo:=h x hx;unfold jE at hm;split at hm
 .rcases NK.1 hm with hm | hm
  .split at hm
   .simp at hm;rw [hm];exact hxo.2.2.1
   .cases hm
  .split at hm
   .simp at hm;rw [hm];exact hxo.2.2.2.2.1
   .cases hm
 .cases hm
end
section
def dH (l:List al):List Int:=bO (b7 l)
def iz (m:bb) (p:List al):List Int:=bO ((dH p ++ m.guards.flatMap fun g=>dH g.cond) ++ m.miles.flatMap fun g=>dH g.cond)
theorem iM (l:List al):(dH l).length<=2 * l.length:=by
 have h1:=d9 (b7 l);have h2:=jH l;unfold dH;omega
theorem oi {α:Type} (f:α -> List Int) (g:α -> Nat) (h:∀ x,(f x).length<=2 * g x):∀ l:List α,(l.flatMap f).length<=2 * (l.map g).sum
 | []=>by simp
 | x :: l=>by
  have h1:=h x;have h2:=oi f g h l;simp only [O3,NB,Oz,List.sum_cons];omega
theorem s8 {α:Type} (f:α -> List Int) (l:List α) (k:Nat):((l.take k).flatMap f).length<=(l.flatMap f).length:=by
 conv=>rhs;rw [<- PB k l,Pe,NB]
 omega
theorem u8 {α:Type} (g:α -> Nat) {l:List α} {x:α} (h:x ∈ l):g x<=(l.map g).sum:=by
 induction l with
 | nil=>cases h
 | cons y l ih=>
  simp only [Oz,List.sum_cons]
  cases OD.1 h with
  | inl e=>subst e;omega
  | inr e=>have:=ih e;omega
theorem pW {α:Type} (f:α -> List Int) (l:List α) {k:Nat} (h:k<l.length):(l.take (k+1)).flatMap f=(l.take k).flatMap f ++ f l[k]:=by
 rw [Ns h,Pe];simp
theorem se (m:bb) (p:List al) (hg:m.guards.length<=11000000) (hm:m.miles.length<=11000000) (hT:p.length+(m.guards.map fun g=>g.cond.length).sum+(m.miles.map fun g=>g.cond.length).sum<=1100000):ax Tryz.prog 10 [.agg (aQ m),a7 p] ⟨sI (iz m p),[],0⟩:=by
 have hok:(⟨sI (iz m p),[],0⟩:cG).Ok:=⟨fun id o h=>(by cases h),by simp [AV.lt]⟩;refine aa ah Tryz.func10 rfl (by decide) Tryz.ntmps10 Tryz.results10 rfl (hok) ?_;have hgc:∀ g ∈ m.guards,g.cond.length<=1100000:=fun g hg=>by have:=u8 (fun g:Gd=>g.cond.length) hg;omega
 have hmc:∀ g ∈ m.miles,g.cond.length<=1100000:=fun g hg=>by have:=u8 (fun g:Ml=>g.cond.length) hg;omega
 have hN:ax Tryz.prog 30 [a7 p] ⟨sI (dH p),[],0⟩:=kw p (by omega);have hpl:=iM p;obtain ⟨f,hf⟩:∃ f,f=fun g:Gd=>dH g.cond:=⟨_,rfl⟩;obtain ⟨g2,hg2⟩:∃ f,f=fun g:Ml=>dH g.cond:=⟨_,rfl⟩
 have hfl:∀ k,((m.guards.take k).flatMap f).length<=2 * (m.guards.map fun g=>g.cond.length).sum:=fun k=>by
  rw [hf];exact N2 (s8 _ _ k) (oi (fun g:Gd=>dH g.cond) (fun g=>g.cond.length) (fun x=>iM x.cond) m.guards)
 have hgl:∀ k,((m.miles.take k).flatMap g2).length<=2 * (m.miles.map fun g=>g.cond.length).sum:=fun k=>by
  rw [hg2];exact N2 (s8 _ _ k) (oi (fun g:Ml=>dH g.cond) (fun g=>g.cond.length) (fun x=>iM x.cond) m.miles)
 have hC:iz m p=bO ((dH p ++ m.guards.flatMap f) ++ m.miles.flatMap g2):=by rw [hf,hg2];rfl
 rw [hC]
 have hlt1:(dH p ++ m.guards.flatMap f).length<=2200000:=by
  have:=hfl m.guards.length;rw [NG] at this;rw [NB];omega
 have hlt2:((dH p ++ m.guards.flatMap f) ++ m.miles.flatMap g2).length<=4400000:=by
  have:=hgl m.miles.length;rw [NG] at this;rw [NB];omega
 have hS:=fg ((dH p ++ m.guards.flatMap f) ++ m.miles.flatMap g2) (by omega)
 repeat' first|refine gq ?_|decide|refine sp ?_ ?_<;>intro _|refine cA hN ?_|(with_reducible apply And.intro)
 all_goals first
  | rfl
  | omega
  | skip
 refine ae (fun st=>∃ k:Nat,k<=m.guards.length /\ st=⟨46,[(2,.op 0 0 0),(5,.osl 1),(6,eI (k:Int))],[(0,some (.box 32 (aQ m))),(1,some (.row 2 1 ((dH p ++ (m.guards.take k).flatMap f).map fun n=>[eI n])))],2⟩) (fun st=>m.guards.length - aq st 6) ⟨_,(wS [0,2] (kf @NJ @OG)),0,Nv _,rfl⟩ ?_;rintro _ ⟨k,hk,rfl⟩;by_cases hlt:k<m.guards.length
 .obtain ⟨x,hx⟩:∃ x,m.guards[k]=x:=⟨_,rfl⟩;have hxc:=hgc x (hx ▸ Nt hlt);have hNx:ax Tryz.prog 30 [a7 x.cond] ⟨sI (dH x.cond),[],0⟩:=kw x.cond (by omega)
  have hsn:(dH p ++ (m.guards.take (k+1)).flatMap f).map (fun n=>[eI n])=(dH p ++ (m.guards.take k).flatMap f).map (fun n=>[eI n]) ++ (dH x.cond).map (fun n=>[eI n]):=by
   rw [pW f _ hlt,hx,<- Oj,OB,hf]
  have hl1:(dH p ++ (m.guards.take k).flatMap f).length<=2200000:=by have:=hfl k;rw [NB];omega
  have hl2:=iM x.cond
  repeat' first|refine gq ?_|simp only [ab,hlt,hx]|decide|refine sp ?_ ?_<;>intro _|refine cA hNx ?_|(with_reducible apply And.intro)
  all_goals first
   | rfl
   | omega
   | exact rI (wS [0,2] @hsn) ⟨k+1,by omega,rfl⟩
 .obtain rfl:k=m.guards.length:=by omega
  rw [NG];obtain ⟨O,hO⟩:∃ O,dH p ++ m.guards.flatMap f=O:=⟨_,rfl⟩;rw [hO] at hlt1 hlt2 hS ⊢
  repeat' first|refine gf @hlt ?_|decide|refine sp ?_ ?_<;>intro _
  refine ae (fun st=>∃ k:Nat,k<=m.miles.length /\ st=⟨46,[(2,.op 0 0 0),(5,.osl 1),(7,eI (k:Int))],[(0,some (.box 32 (aQ m))),(1,some (.row 2 1 ((O ++ (m.miles.take k).flatMap g2).map fun n=>[eI n])))],2⟩) (fun st=>m.miles.length - aq st 7) ⟨_,(wE (kf @NJ @OG)),0,Nv _,rfl⟩ ?_;rintro _ ⟨k,hk2,rfl⟩;by_cases hlt3:k<m.miles.length
  .obtain ⟨x,hx⟩:∃ x,m.miles[k]=x:=⟨_,rfl⟩;have hxc:=hmc x (hx ▸ Nt hlt3);have hNx:ax Tryz.prog 30 [a7 x.cond] ⟨sI (dH x.cond),[],0⟩:=kw x.cond (by omega)
   have hsn:(O ++ (m.miles.take (k+1)).flatMap g2).map (fun n=>[eI n])=(O ++ (m.miles.take k).flatMap g2).map (fun n=>[eI n]) ++ (dH x.cond).map (fun n=>[eI n]):=by
    rw [pW g2 _ hlt3,hx,<- Oj,OB,hg2]
   have hl1:(O ++ (m.miles.take k).flatMap g2).length<=4400000:=by have:=hgl k;rw [NB];omega
   have hl2:=iM x.cond
   repeat' first|refine gq ?_|simp only [ab,hlt3,hx]|decide|refine sp ?_ ?_<;>intro _|refine cA hNx ?_|(with_reducible apply And.intro)
   all_goals first
    | rfl
    | omega
    | exact rI (wS [0,2] @hsn) ⟨k+1,by omega,rfl⟩
  .obtain rfl:k=m.miles.length:=by omega
   rw [NG]
   repeat' first|refine ge @hlt3 ?_|decide|refine sp ?_ ?_<;>intro _
   refine nv [1] (R:=⟨sI (bO (O ++ m.miles.flatMap g2)),[],0⟩) ?_ ?_ ?_
   .repeat' first|decide|refine go ?_
    exact hS
   .repeat' first|decide|refine go ?_
    left;simp [pi,yS,bV,dk]
   .repeat' first|refine gq ?_|decide|refine sp ?_ ?_<;>intro _
    all_goals exact aU (by first|rfl|simp [AV.ren,AV.renL])
theorem F7 (m:bb) (p:List al) (hp:p.length<=400) (hg:m.guards.length<=14) (hm:m.miles.length<=10) (hgc:∀ g ∈ m.guards,g.cond.length<=80) (hmc:∀ g ∈ m.miles,g.cond.length<=80):ax Tryz.prog 10 [.agg (aQ m),a7 p] ⟨sI (iz m p),[],0⟩:=by
 have h:∀ (α:Type) (f:α -> Nat) (l:List α),(∀ x ∈ l,f x<=80) -> (l.map f).sum<=80 * l.length:=fun α f l=>by
  induction l with
  | nil=>simp
  | cons x l ih=>
   intro h;have:=h x (Ob ..);have:=ih fun y hy=>h y (N7 _ hy);simp only [Oz,List.sum_cons,NZ];omega
 have:=h _ (fun g:Gd=>g.cond.length) m.guards hgc;have:=h _ (fun g:Ml=>g.cond.length) m.miles hmc;exact se m p (by omega) (by omega) (by omega)
end
end
section
section
def tK (c:List Int) (i:Nat):Int:=if i<c.length /\ 0<c.getD i 0 then c.getD i 0 else 0
def Gq (m:bb) (c:List Int) (k:Nat):Int:=(max 0 ((m.events[k]?.map (·.times)).getD 0 - tK c k)).toNat * (((m.events[k]?.map (·.sets.length)).getD 0:Nat):Int)
def dX (m:bb) (c:List Int):Nat -> Int
 | 0=>0
 | k+1=>dX m c k+Gq m c k
theorem vW (c:List Int) (i:Nat):0<=tK c i:=by
 unfold tK;split<;>omega
theorem Br (m:bb) (c:List Int) (he:m.events.length<=10) (hm:∀ e ∈ m.events,e.times<=1000 /\ e.sets.length<=10) (hc:c.length<=1000000):ax Tryz.prog 82 [.agg (aQ m),sI c] (val (.int .i64 (dX m c m.events.length))):=by
 refine aa ah Tryz.func82 rfl (by decide) Tryz.ntmps82 Tryz.results82 rfl (aH _) ?_
 repeat' first|refine go ?_|decide|refine sp ?_ ?_<;>intro _
 refine ae (fun st=>∃ (k:Nat) (n:Int),k<=m.events.length /\ n=dX m c k /\ 0<=n /\ n<=10000 * k /\ st=⟨50,[(1,sI c),(2,.op 0 0 0),(5,eI n),(6,eI (k:Int))],[(0,some (.box 32 (aQ m)))],1⟩) (fun st=>m.events.length - aq st 6) ⟨_,wC,0,0,Nv _,rfl,by omega,by omega,rfl⟩ ?_;rintro _ ⟨k,n,hk,hn,hn0,hn1,rfl⟩;by_cases hlt:k<m.events.length
 .obtain ⟨e,hev⟩:∃ e,m.events[k]=e:=⟨_,rfl⟩;obtain ⟨ht,hs⟩:=hm e (hev ▸ Nt hlt);have hw0:=vW c k
  have hE:Gq m c k=(max 0 (e.times - tK c k)).toNat * (e.sets.length:Int):=by
   unfold Gq;rw [Nq hlt,hev];rfl
  obtain ⟨w,hw⟩:∃ w,tK c k=w:=⟨_,rfl⟩;rw [hw] at hE hw0;obtain ⟨J,hJ⟩:∃ J,(max 0 (e.times - w)).toNat=J:=⟨_,rfl⟩;rw [hJ] at hE;have hJ10:J<=100000:=by omega
  obtain ⟨S,hS⟩:∃ S,e.sets.length=S:=⟨_,rfl⟩;rw [hS] at hE hs;by_cases hkc:k<c.length
  .by_cases hpos:0<c[k]
   .have hwc:c[k]=w:=by
     rw [<- hw,tK,ND ⟨hkc,by rw [NA,Nq hkc];exact hpos⟩,NA,Nq hkc];rfl
    have d1:decide (0<w)=true:=by rw [<- hwc];simpa using hpos
    repeat' first|refine gq ?_|simp only [ab,hlt,hkc,hwc,d1]|decide|refine sp ?_ ?_<;>intro _
    refine ae (fun st=>∃ (j:Nat) (was q:Int),j<=J /\ was=w+j /\ q=n+((j * S:Nat):Int) /\ st=⟨50,[(1,sI c),(2,.op 0 0 0),(5,eI q),(6,eI (k:Int)),(7,eI was)],[(0,some (.box 32 (aQ m)))],1⟩) (fun st=>1000 - aq st 7) ⟨_,wC,0,w,n,Nv _,by omega,by simp,rfl⟩ ?_;rintro _ ⟨j,was,q,hj,hwas,hq,rfl⟩;have hjs:j * S<=1000 * 10:=Pz (by omega) (by omega);by_cases hlw:was<e.times
    .have d2:decide (was<e.times)=true:=(by simpa using hlw);have ew1:IntKind.i64.wrap (q+(S:Int))=q+(S:Int):=ar (by omega) (by omega);have ew2:IntKind.i64.wrap (was+1)=was+1:=ar (by omega) (by omega);have hss:(j+1) * S=j * S+S:=PS j S
     repeat' first|refine gq ?_|simp only [ab,hlt,hev,hS,d2,ew1,ew2]|decide|refine sp ?_ ?_<;>intro _
     exact rI wC ⟨j+1,was+1,q+(S:Int),by omega,by omega,by rw [hss];omega,rfl⟩
    .have d2:decide (was<e.times)=false:=(by simpa using hlw);obtain rfl:j=J:=by omega
     have hev2:Gq m c k=((j * S:Nat):Int):=by rw [hE];simp
     repeat' first|refine gq ?_|simp only [ab,hlt,hev,d2]|decide|refine sp ?_ ?_<;>intro _
     exact rI wC ⟨k+1,q,by omega,by rw [dX,hev2,<- hn,hq],by omega,by omega,rfl⟩
   .have d1:decide (0<c[k])=false:=(by simpa using hpos);obtain rfl:w=0:=by rw [<- hw,tK,Ny (by rw [NA,Nq hkc];exact fun h=>hpos h.2)]
    repeat' first|refine gq ?_|simp only [ab,hlt,hkc,d1]|decide|refine sp ?_ ?_<;>intro _
    refine ae (fun st=>∃ (j:Nat) (was q:Int),j<=J /\ was=0+(j:Int) /\ q=n+((j * S:Nat):Int) /\ st=⟨50,[(1,sI c),(2,.op 0 0 0),(5,eI q),(6,eI (k:Int)),(7,eI was)],[(0,some (.box 32 (aQ m)))],1⟩) (fun st=>1000 - aq st 7) ⟨_,wC,0,0,n,Nv _,by omega,by simp,rfl⟩ ?_;rintro _ ⟨j,was,q,hj,hwas,hq,rfl⟩;have hjs:j * S<=1000 * 10:=Pz (by omega) (by omega);by_cases hlw:was<e.times
    .have d2:decide (was<e.times)=true:=(by simpa using hlw);have ew1:IntKind.i64.wrap (q+(S:Int))=q+(S:Int):=ar (by omega) (by omega);have ew2:IntKind.i64.wrap (was+1)=was+1:=ar (by omega) (by omega);have hss:(j+1) * S=j * S+S:=PS j S
     repeat' first|refine gq ?_|simp only [ab,hlt,hev,hS,d2,ew1,ew2]|decide|refine sp ?_ ?_<;>intro _
     exact rI wC ⟨j+1,was+1,q+(S:Int),by omega,by omega,by rw [hss];omega,rfl⟩
    .have d2:decide (was<e.times)=false:=(by simpa using hlw);obtain rfl:j=J:=by omega
     have hev2:Gq m c k=((j * S:Nat):Int):=by rw [hE];simp
     repeat' first|refine gq ?_|simp only [ab,hlt,hev,d2]|decide|refine sp ?_ ?_<;>intro _
     exact rI wC ⟨k+1,q,by omega,by rw [dX,hev2,<- hn,hq],by omega,by omega,rfl⟩
  .obtain rfl:w=0:=by rw [<- hw,tK,Ny (fun h=>hkc h.1)]
   repeat' first|refine gq ?_|simp only [ab,hlt,hkc]|decide|refine sp ?_ ?_<;>intro _
   refine ae (fun st=>∃ (j:Nat) (was q:Int),j<=J /\ was=0+(j:Int) /\ q=n+((j * S:Nat):Int) /\ st=⟨50,[(1,sI c),(2,.op 0 0 0),(5,eI q),(6,eI (k:Int)),(7,eI was)],[(0,some (.box 32 (aQ m)))],1⟩) (fun st=>1000 - aq st 7) ⟨_,wC,0,0,n,Nv _,by omega,by simp,rfl⟩ ?_;rintro _ ⟨j,was,q,hj,hwas,hq,rfl⟩;have hjs:j * S<=1000 * 10:=Pz (by omega) (by omega);by_cases hlw:was<e.times
   .have d2:decide (was<e.times)=true:=(by simpa using hlw);have ew1:IntKind.i64.wrap (q+(S:Int))=q+(S:Int):=ar (by omega) (by omega);have ew2:IntKind.i64.wrap (was+1)=was+1:=ar (by omega) (by omega);have hss:(j+1) * S=j * S+S:=PS j S
    repeat' first|refine gq ?_|simp only [ab,hlt,hev,hS,d2,ew1,ew2]|decide|refine sp ?_ ?_<;>intro _
    exact rI wC ⟨j+1,was+1,q+(S:Int),by omega,by omega,by rw [hss];omega,rfl⟩
   .have d2:decide (was<e.times)=false:=(by simpa using hlw);obtain rfl:j=J:=by omega
    have hev2:Gq m c k=((j * S:Nat):Int):=by rw [hE];simp
    repeat' first|refine gq ?_|simp only [ab,hlt,hev,d2]|decide|refine sp ?_ ?_<;>intro _
    exact rI wC ⟨k+1,q,by omega,by rw [dX,hev2,<- hn,hq],by omega,by omega,rfl⟩
 .obtain rfl:k=m.events.length:=by omega
  repeat' first|refine gf @hlt ?_|decide|refine sp ?_ ?_<;>intro _
  exact hn
end
section
theorem rc (m:bb) (c:List Int) (he:m.events.length<=10) (hm:∀ e ∈ m.events,e.times<=10 /\ e.sets.length<=10) (hc:c.length<=1000000):ax Tryz.prog 82 [.agg (aQ m),sI c] (val (.int .i64 (dX m c m.events.length))):=
 Br m c he (fun e h=>⟨by have:=(hm e h).1;omega,(hm e h).2⟩) hc
end
section
def oP (m:bb) (c:List Int) (s:St):Nd:=⟨mw s.vals c (dX m s.cnt m.events.length),s.opn,s.don,s.did,s.cnt⟩
theorem FN (m:bb) (c:List Int) (s:St) (he:m.events.length<=10) (hm:∀ e ∈ m.events,e.times<=10 /\ e.sets.length<=10) (h1:s.vals.length<=31) (h2:c.length<=400) (hv:∀ x ∈ s.vals,aB x) (hc:∀ x ∈ c,aB x) (h3:s.did.length<=1000000) (h4:s.cnt.length<=1000000):ax Tryz.prog 78 [.agg (aQ m),sI c,.agg (il s)] ⟨.agg (fG (oP m c s)),[],0⟩:=by
 have hL:=rc m s.cnt he hm h4;have hO:=F8 s.vals c (dX m s.cnt m.events.length) h1 h2 hv hc;unfold oP;obtain ⟨z,hz⟩:∃ z,mw s.vals c (dX m s.cnt m.events.length)=z:=⟨_,rfl⟩;rw [hz] at hO ⊢;refine ax.still (R:=⟨.agg [.sl 2 (z.cls.map cC),sI z.gaps,eI s.opn,eI s.don,.osl 0,.osl 1],[(0,some (.row 3 1 (s.did.map fun n=>[eI n]))),(1,some (.row 3 1 (s.cnt.map fun n=>[eI n])))],2⟩) [0,1] ?_ (by simp [cG.frzs,cG.frz,af.gc,AV.frz,AV.frzL,bE,aE.frz]) (by simp [AV.lt,AV.ltL]);refine aa ah Tryz.func78 rfl (by decide) Tryz.ntmps78 Tryz.results78 rfl (jW (by simp [cr,aE.lt,AV.ltL,AV.lt]) (by simp [AV.lt,AV.ltL])) ?_
 repeat' first|refine go ?_|decide|refine sp ?_ ?_<;>intro _
 refine aD [2] [0,1,2,3,4,5,8,9,10,11,13,14,17,18] (.three 6 (.three 7 (.two 12 (.two 15 (.exec 16 (.exec 19 (.take 20 (.exec 21 .done)))) 16 (.exec 15 (.exec 19 (.take 20 (.exec 21 .done))))) 16 (.exec 12 (.exec 15 (.exec 19 (.take 20 (.exec 21 .done)))))) 12 (.two 7 (.two 15 (.exec 16 (.exec 19 (.take 20 (.exec 21 .done)))) 16 (.exec 15 (.exec 19 (.take 20 (.exec 21 .done))))) 16 (.exec 7 (.exec 15 (.exec 19 (.take 20 (.exec 21 .done)))))) 16 (.two 7 (.exec 12 (.exec 15 (.exec 19 (.take 20 (.exec 21 .done))))) 12 (.exec 7 (.exec 15 (.exec 19 (.take 20 (.exec 21 .done))))))) 12 (.two 6 (.two 7 (.two 15 (.exec 16 (.exec 19 (.take 20 (.exec 21 .done)))) 16 (.exec 15 (.exec 19 (.take 20 (.exec 21 .done))))) 16 (.exec 7 (.exec 15 (.exec 19 (.take 20 (.exec 21 .done)))))) 16 (.exec 6 (.exec 7 (.exec 15 (.exec 19 (.take 20 (.exec 21 .done))))))) 16 (.two 6 (.two 7 (.exec 12 (.exec 15 (.exec 19 (.take 20 (.exec 21 .done))))) 12 (.exec 7 (.exec 15 (.exec 19 (.take 20 (.exec 21 .done)))))) 12 (.exec 6 (.exec 7 (.exec 15 (.exec 19 (.take 20 (.exec 21 .done)))))))) (by kernel_rfl) (by simp [af.gc]) ?_
 repeat' first|refine gq ?_|decide|refine sp ?_ ?_<;>intro _|refine cA hL ?_|refine cA hO ?_|(with_reducible apply And.intro)
 all_goals first
  | omega
  | rfl
  | exact ⟨[4,6],by decide,rfl,by simp [cb,af.gc]⟩
  | exact ⟨[5,6],by decide,rfl,by simp [cb,af.gc]⟩
  | exact ⟨[6,5],by decide,rfl,by simp [cb,af.gc]⟩
  | exact ⟨[6,4],by decide,rfl,by simp [cb,af.gc]⟩
end
section
theorem wj (m:bb):(dr m).vals=m.inits /\ (dr m).did.length=m.events.length /\ (dr m).cnt.length=m.events.length:=by
 have h:=od m (-1) (m.order.take m.order.length) (jI m);unfold dr j9;rw [h.1,h.2.1,h.2.2];simp [jI]
theorem t4 (m:bb) (c:List Int) (hf:rL m) (hp:∀ p ∈ m.stages,aB p.2) (hi:∀ x ∈ m.inits,aB x) (hm:∀ e ∈ m.events,e.times<=10 /\ e.sets.length<=10) (h2:c.length<=400) (hc:∀ x ∈ c,aB x):ax Tryz.prog 32 [.agg (aQ m),sI c] ⟨.agg (fG (oP m c (dr m))),[],0⟩:=by
 obtain ⟨-,-,-,hel,-,-,-,-,-,hil⟩:=id hf.sizes;obtain ⟨e1,e2,e3⟩:=wj m;have hB:=Cf m hf hp;have hO:=FN m c (dr m) hel hm (by rw [e1];omega) h2 (by rw [e1];exact hi) hc (by omega) (by omega);have hok:(⟨.agg (fG (oP m c (dr m))),[],0⟩:cG).Ok:=⟨fun id o h=>(by cases h),by simp [AV.lt,AV.ltL]⟩;generalize oP m c (dr m)=nd at *;refine aa ah Tryz.func32 rfl (by decide) Tryz.ntmps32 Tryz.results32 rfl (hok) ?_
 repeat' first|refine go ?_|decide|refine sp ?_ ?_<;>intro _
 refine aD [1] [0,1,2] (.exec 3 (.exec 4 (.exec 5 .done))) (by kernel_rfl) (by simp [af.gc]) ?_
 repeat' first|refine gq ?_|decide|refine sp ?_ ?_<;>intro _|refine cA hB ?_|refine cA hO ?_|(with_reducible apply And.intro)
 all_goals exact aU (by first|rfl|simp [AV.ren,AV.renL])
end
section
def sd (m:bb) (n:Nd):St:=⟨List.replicate m.attrs.length 0,n.opn,n.don,n.did,n.cnt⟩
def zP (m:bb) (c:List Int) (n:Nd):Prop:=uZ m (sd m n)=true /\ x9 n.z (m.attrs.length:Int) c (dX m n.cnt m.events.length)
end
section
theorem Ht:(0:Int)<((4:Nat):Int):=by decide
theorem HI:(1:Int)<((4:Nat):Int):=by decide
theorem HD:(2:Int)<((4:Nat):Int):=by decide
theorem Hr:(3:Int)<((4:Nat):Int):=by decide
def kE (m:bb) (x:al):Bool:=
 if (decide (3<=x.op) && decide (x.op<=8))=true then decide (-1<=x.la) && decide (x.la<(m.attrs.length:Int)) && decide (-1<=x.ra) && decide (x.ra<(m.attrs.length:Int))
 else if (decide (x.op<9) || decide (12<x.op))=true then true
 else decide (0<=x.n) && decide (x.n<(if x.op=9 then (m.stages.length:Int) else if x.op=10 then (m.miles.length:Int) else (m.events.length:Int))) && (x.op != 12 || (decide (0<=x.u) && decide (x.u<(m.users.length:Int))))
theorem DS (m:bb) (x:al):ax Tryz.prog 113 [.agg (aQ m),.agg (eD x)] (val (.bool (kE m x))):=by
 refine aa ah Tryz.func113 rfl (by decide) Tryz.ntmps113 Tryz.results113 rfl (aH _) ?_;obtain ⟨op,la,ln,ra,rn,n,u⟩:=x;by_cases h1:3<=op /\ op<=8
 .have e1:decide (3<=op)=true:=by simp;omega
  have e2:decide (op<=8)=true:=by simp;omega
  have eR:kE m ⟨op,la,ln,ra,rn,n,u⟩=(decide (-1<=la) && decide (la<(m.attrs.length:Int)) && decide (-1<=ra) && decide (ra<(m.attrs.length:Int))):=by simp [kE,h1]
  rw [eR]
  repeat' first|refine ge (kf e1 e2) ?_|decide|refine sp ?_ ?_<;>intro _
  all_goals (rename_i h;simp at h;first|(simp_all;done)|(simp_all;omega))
 .by_cases h2:op<9 \/ 12<op
  .have eR:kE m ⟨op,la,ln,ra,rn,n,u⟩=true:=by
    rcases h2 with h2|h2<;>simp [kE,h2]<;>omega
   rw [eR]
   repeat' first|refine go ?_|decide|refine sp ?_ ?_<;>intro _
   all_goals first|rfl|(exfalso;simp at *;omega)
  .have h3:op=9 \/ op=10 \/ op=11 \/ op=12:=(by omega);rcases h3 with rfl|rfl|rfl|rfl
   .have e1:decide ((3:Int)<=9)=true:=(by decide);have e2:decide ((9:Int)<=8)=false:=(by decide);have e3:decide ((9:Int)<9)=false:=(by decide);have e4:decide ((12:Int)<9)=false:=(by decide);have e5:((9:Int) != 12)=true:=(by decide);have ew:IntKind.i64.wrap ((9:Int) - 9)=0:=(by decide)
    repeat' first|refine ge (kf e1 (kf e2 (kf e3 (kf e4 (kf e5 ew))))) ?_|decide|refine sp ?_ ?_<;>intro _
    refine ⟨rfl,aA (by kernel_rfl) ?_⟩
    repeat' first|refine go ?_|simp only [e1,e2,e3,e4,e5,ew,Ht,HI,HD,Hr,Int.reduceLE,Int.reduceLT,PO,Int.toNat_one,Int.reduceToNat,Pq,Pa,NX]|decide|refine sp ?_ ?_<;>intro _
    all_goals first|(simp_all [kE];done)|(simp_all [kE];omega)
   .have e1:decide ((3:Int)<=10)=true:=(by decide);have e2:decide ((10:Int)<=8)=false:=(by decide);have e3:decide ((10:Int)<9)=false:=(by decide);have e4:decide ((12:Int)<10)=false:=(by decide);have e5:((10:Int) != 12)=true:=(by decide);have ew:IntKind.i64.wrap ((10:Int) - 9)=1:=(by decide)
    repeat' first|refine ge (kf e1 (kf e2 (kf e3 (kf e4 (kf e5 ew))))) ?_|decide|refine sp ?_ ?_<;>intro _
    refine ⟨rfl,aA (by kernel_rfl) ?_⟩
    repeat' first|refine go ?_|simp only [e1,e2,e3,e4,e5,ew,Ht,HI,HD,Hr,Int.reduceLE,Int.reduceLT,PO,Int.toNat_one,Int.reduceToNat,Pq,Pa,NX]|decide|refine sp ?_ ?_<;>intro _
    all_goals first|(simp_all [kE];done)|(simp_all [kE];omega)
   .have e1:decide ((3:Int)<=11)=true:=(by decide);have e2:decide ((11:Int)<=8)=false:=(by decide);have e3:decide ((11:Int)<9)=false:=(by decide);have e4:decide ((12:Int)<11)=false:=(by decide);have e5:((11:Int) != 12)=true:=(by decide);have ew:IntKind.i64.wrap ((11:Int) - 9)=2:=(by decide)
    repeat' first|refine ge (kf e1 (kf e2 (kf e3 (kf e4 (kf e5 ew))))) ?_|decide|refine sp ?_ ?_<;>intro _
    refine ⟨rfl,aA (by kernel_rfl) ?_⟩
    repeat' first|refine go ?_|simp only [e1,e2,e3,e4,e5,ew,Ht,HI,HD,Hr,Int.reduceLE,Int.reduceLT,PO,Int.toNat_one,Int.reduceToNat,Pq,Pa,NX]|decide|refine sp ?_ ?_<;>intro _
    all_goals first|(simp_all [kE];done)|(simp_all [kE];omega)
   .have e1:decide ((3:Int)<=12)=true:=(by decide);have e2:decide ((12:Int)<=8)=false:=(by decide);have e3:decide ((12:Int)<9)=false:=(by decide);have e4:decide ((12:Int)<12)=false:=(by decide);have e5:((12:Int) != 12)=false:=(by decide);have ew:IntKind.i64.wrap ((12:Int) - 9)=3:=(by decide)
    repeat' first|refine ge (kf e1 (kf e2 (kf e3 (kf e4 (kf e5 ew))))) ?_|decide|refine sp ?_ ?_<;>intro _
    refine ⟨rfl,aA (by kernel_rfl) ?_⟩
    repeat' first|refine go ?_|simp only [e1,e2,e3,e4,e5,ew,Ht,HI,HD,Hr,Int.reduceLE,Int.reduceLT,PO,Int.toNat_one,Int.reduceToNat,Pq,Pa,NX]|decide|refine sp ?_ ?_<;>intro _
    all_goals first|(simp_all [kE];done)|(simp_all [kE];omega)
end
section
theorem mO (m:bb) (hl:m.stages.length<=1000000):ax Tryz.prog 25 [.agg (aQ m)] (ic 3 1 ((fF m).map fun n=>[eI n])):=by
 refine aa ah Tryz.func25 rfl (by decide) Tryz.ntmps25 Tryz.results25 rfl (cB _ _ _) ?_
 repeat' first|refine go ?_|decide|refine sp ?_ ?_<;>intro _
 refine ae (fun st=>∃ k:Nat,k<=m.stages.length /\ st=⟨22,[(1,.op 0 0 0),(3,.osl 1),(4,eI (k:Int))],[(0,some (.box 32 (aQ m))),(1,some (.row 3 1 ((m.stages.take k).map fun p=>[eI p.2])))],2⟩) (fun st=>m.stages.length - aq st 4) ⟨_,((aR 3 3 1 (by simp only [ia,aj.get,aX,aj.put,↓reduceIte,reduceCtorEq,Nat.reduceLT,Nat.reduceEqDiff,Nat.reduceAdd,Nat.reduceLeDiff,eq_self,implies_true,NJ,N3])).trans (wS [0,1] @NJ)),0,Nv _,rfl⟩ ?_;rintro _ ⟨k,hk,rfl⟩;by_cases hlt:k<m.stages.length
 .have et:(m.stages.take (k+1)).map (fun p=>[eI p.2])=(m.stages.take k).map (fun p=>[eI p.2]) ++ [[eI m.stages[k].2]]:=eh _ _ hlt
  repeat' first|refine go ?_|simp only [ab,hlt]|decide|refine sp ?_ ?_<;>intro _
  refine ⟨rfl,by simp only [NF];omega,rI (wS [0,3] et) ⟨k+1,by omega,rfl⟩⟩
 .obtain rfl:k=m.stages.length:=by omega
  repeat' first|refine go ?_|simp only [ab,hlt]|decide|refine sp ?_ ?_<;>intro _
  exact aO (by simp [af.gc,fF])
end
section
theorem HB (m:bb) (hf:rL m):ax Tryz.prog 75 [.agg (aQ m)] (val (.int .i64 ((m.guards.length+m.miles.length:Nat):Int))):=by
 refine aa ah Tryz.func75 rfl (by decide) Tryz.ntmps75 Tryz.results75 rfl (aH _) ?_;obtain ⟨hg,hm,-⟩:=id hf.sizes
 repeat' first|refine go ?_|decide|refine sp ?_ ?_<;>intro _
 rw [ar (by omega) (by omega)];simp
theorem yR (a b:Nat):IntKind.i64.wrap ((a+b:Nat) - (a:Int))=(b:Int) \/ b > 9223372036854775807:=by
 rcases NP 9223372036854775807 b with h|h
 .exact .inr h
 .left;rw [ar (by omega) (by omega)];omega
def md (m:bb) (i:Nat):Bool × Int:=if i<m.guards.length then (false,(i:Int)) else (true,((i - m.guards.length:Nat):Int))
def bP (m:bb) (i:Nat):Int:=if h:i<m.guards.length then m.guards[i].stage else (m.miles[i - m.guards.length]?.map (·.stage)).getD 0
def jG (m:bb) (i:Nat):List al:=if h:i<m.guards.length then m.guards[i].cond else (m.miles[i - m.guards.length]?.map (·.cond)).getD []
theorem IP (m:bb) (i:Nat) (hf:rL m) (hi:i<m.guards.length+m.miles.length):ax Tryz.prog 77 [.agg (aQ m),eI (i:Int)] ⟨.agg (uK (md m i)),[],0⟩:=by
 refine aa ah Tryz.func77 rfl (by decide) Tryz.ntmps77 Tryz.results77 rfl (⟨fun id o h=>(by cases h),⟨trivial,trivial,trivial⟩⟩) ?_;obtain ⟨hg,hm,-⟩:=id hf.sizes;by_cases hlt:i<m.guards.length
 .have e:md m i=(false,(i:Int)):=by simp [md,hlt]
  rw [e]
  repeat' first|refine ge @hlt ?_|decide|refine sp ?_ ?_<;>intro _
  exact aU (by simp [AV.ren,AV.renL])
 .obtain ⟨j,rfl⟩:∃ j,i=m.guards.length+j:=⟨i - m.guards.length,by omega⟩;have e:md m (m.guards.length+j)=(true,(j:Int)):=by simp [md]
  have ew:IntKind.i64.wrap (((m.guards.length+j:Nat):Int) - (m.guards.length:Int))=(j:Int):=(yR _ _).resolve_right (by omega);rw [e]
  repeat' first|refine ge (kf @hlt ew) ?_|decide|refine sp ?_ ?_<;>intro _
  exact aU (by simp [AV.ren,AV.renL])
theorem jq (m:bb) (i:Nat) (hf:rL m) (hi:i<m.guards.length+m.miles.length):ax Tryz.prog 117 [.agg (aQ m),eI (i:Int)] (val (.int .i64 (bP m i))):=by
 refine aa ah Tryz.func117 rfl (by decide) Tryz.ntmps117 Tryz.results117 rfl (aH _) ?_;obtain ⟨hg,hm,-⟩:=id hf.sizes;by_cases hlt:i<m.guards.length
 .have e:bP m i=m.guards[i].stage:=by simp [bP,hlt]
  rw [e]
  repeat' first|refine go ?_|simp only [hlt,ab]|decide|refine sp ?_ ?_<;>intro _
 .obtain ⟨j,rfl⟩:∃ j,i=m.guards.length+j:=⟨i - m.guards.length,by omega⟩;have hj:j<m.miles.length:=by omega
  have e:bP m (m.guards.length+j)=m.miles[j].stage:=by simp only [bP];rw [dif_neg (by omega)];simp [hj]
  have ew:IntKind.i64.wrap (((m.guards.length+j:Nat):Int) - (m.guards.length:Int))=(j:Int):=(yR _ _).resolve_right (by omega);rw [e]
  repeat' first|refine go ?_|simp only [hlt,ew,hj,ab]|decide|refine sp ?_ ?_<;>intro _
theorem JG (m:bb) (i:Nat) (hf:rL m) (hi:i<m.guards.length+m.miles.length):ax Tryz.prog 115 [.agg (aQ m),eI (i:Int)] ⟨a7 (jG m i),[],0⟩:=by
 refine aa ah Tryz.func115 rfl (by decide) Tryz.ntmps115 Tryz.results115 rfl (⟨fun id o h=>(by cases h),trivial⟩) ?_;obtain ⟨hg,hm,-⟩:=id hf.sizes;by_cases hlt:i<m.guards.length
 .have e:jG m i=m.guards[i].cond:=by simp [jG,hlt]
  rw [e]
  repeat' first|refine go ?_|simp only [hlt,ab]|decide|refine sp ?_ ?_<;>intro _
  exact aU (by simp [AV.ren,AV.renL])
 .obtain ⟨j,rfl⟩:∃ j,i=m.guards.length+j:=⟨i - m.guards.length,by omega⟩;have hj:j<m.miles.length:=by omega
  have e:jG m (m.guards.length+j)=m.miles[j].cond:=by simp only [jG];rw [dif_neg (by omega)];simp [hj]
  have ew:IntKind.i64.wrap (((m.guards.length+j:Nat):Int) - (m.guards.length:Int))=(j:Int):=(yR _ _).resolve_right (by omega);rw [e]
  repeat' first|refine go ?_|simp only [hlt,ew,hj,ab]|decide|refine sp ?_ ?_<;>intro _
  exact aU (by simp [AV.ren,AV.renL])
theorem zh (m:bb) (hf:rL m) (i:Nat):(jG m i).length<=80:=by
 unfold jG;split
 .exact hf.guards _ (Nt _)
 .rcases NP (i - m.guards.length) m.miles.length with h | h
  .simp [Nq h];exact hf.miles _ (Nt _)
  .simp [NN h]
end
section
def ur (st:aj) (id:Nat):Nat:=match st.tab.get id with | some (.row _ _ rows)=>rows.length | _=>0
end
section
structure Nh (m:bb):Prop where
 attrs:m.attrs.length<=5
 inits:m.inits.length=m.attrs.length
 users:m.users.length<=4
 roles:m.roles.length<=4
 stages:m.stages.length<=8
 events:m.events.length<=6
 guards:m.guards.length<=12
 miles:m.miles.length<=8
 sods:m.sods.length<=6
 circle:jJ (fF m)<0
end
section
theorem Eb (r:Int):cj r<=1048576:=by
 unfold cj;have h1:(2:Nat) ^ (min r.toNat 20)<=2 ^ 20:=Od (by omega) (by omega);have h2:((2 ^ (min r.toNat 20):Nat):Int)=(2:Int) ^ (min r.toNat 20):=by simp
 omega
end
section
theorem tW (m:bb) (c:List Int) (n:Nd) (he:m.events.length<=10) (hm:∀ e ∈ m.events,e.times<=10 /\ e.sets.length<=10) (ha:m.attrs.length<=1000000) (h1:n.z.cls.length<=40) (h2:n.z.gaps.length<=40) (h3:c.length<=100000) (hc:∀ x ∈ c,aB x) (hat:∀ x ∈ n.z.cls,aB x.attrs) (h5:n.did.length<=1000000) (h4:n.cnt.length<=1000000) (hop:aB n.opn) (hdo:aB n.don) (hdid:∀ x ∈ n.did,aB x):dn Tryz.prog 80 [.agg (aQ m),sI c,.agg (fG n)] fun R=>∃ b,R=val (.bool b) /\ (b=true ↔ zP m c n):=by
 refine aM ah Tryz.func80 rfl (by decide) Tryz.ntmps80 Tryz.results80 rfl ?_;have hSt:=nH n h5 h4;have hS:=F9 m (sd m n) (by omega) hop hdo hdid;have hL:=rc m n.cnt he hm h4;have hrep:List.replicate m.attrs.length [eI 0]=(List.replicate m.attrs.length 0).map fun n=>[eI n]:=by simp
 obtain ⟨t,ht,hZ⟩:=ki (Ay n.z (m.attrs.length:Int) c (dX m n.cnt m.events.length) h1 h2 h3 hc (Eb _) hat);unfold zP;rw [<- ht];clear ht;generalize dX m n.cnt m.events.length=L at *
 cases hb:uZ m (sd m n) with
 | true=>
  rw [hb] at hS
  repeat' first|refine gq ?_|decide|refine sp ?_ ?_<;>intro _|refine cA hSt ?_|fail
  refine ⟨⟨by omega,by omega⟩,?_⟩
  repeat' first|refine gq ?_|simp only [hrep,sd]|decide|refine sp ?_ ?_<;>intro _|refine cA hS ?_|refine cA hL ?_|refine cA hZ ?_|fail
  all_goals exact ca ⟨t,rfl,by simp⟩
 | false=>
  rw [hb] at hS
  repeat' first|refine gq ?_|decide|refine sp ?_ ?_<;>intro _|refine cA hSt ?_|fail
  refine ⟨⟨by omega,by omega⟩,?_⟩
  repeat' first|refine gq ?_|simp only [hrep,sd]|decide|refine sp ?_ ?_<;>intro _|refine cA hS ?_|refine cA hL ?_|refine cA hZ ?_|fail
  all_goals exact ca ⟨false,rfl,by simp⟩
end
end
section
section
theorem Kw (q:Nat) (hq:q<=60):ax Tryz.prog 70 [eI (q:Int)] (val (.int .i64 (((2 ^ q - 1:Nat):Int)))):=by
 refine aa ah Tryz.func70 rfl (by decide) Tryz.ntmps70 Tryz.results70 rfl (aH _) ?_
 repeat' first|refine go ?_|decide|refine sp ?_ ?_<;>intro _
 refine ae (fun st=>∃ k:Nat,k<=q /\ st=⟨14,[(0,eI (q:Int)),(3,eI ((2 ^ k - 1:Nat):Int)),(4,eI (k:Int))],[],0⟩) (fun st=>q - aq st 4) ⟨_,wC,0,Nv _,rfl⟩ ?_;rintro _ ⟨k,hk,rfl⟩;by_cases hlt:k<q
 .have hp:2 ^ k<=2 ^ 59:=Od (by omega) (by omega);have hp1:1<=2 ^ k:=Nat.one_le_two_pow;have e1:IntKind.i64.wrap (2 * ((2 ^ k - 1:Nat):Int))=2 * ((2 ^ k - 1:Nat):Int):=ar (by omega) (by omega)
  have e2:IntKind.i64.wrap (2 * ((2 ^ k - 1:Nat):Int)+1)=((2 ^ (k+1) - 1:Nat):Int):=by
   rw [ar (by omega) (by omega),Nat.pow_succ];omega
  repeat' first|refine ge (kf @hlt (kf e1 e2)) ?_|decide|refine sp ?_ ?_<;>intro _
  exact rI (wE (kf e1 e2)) ⟨k+1,by omega,rfl⟩
 .obtain rfl:k=q:=by omega
  repeat' first|refine ge @hlt ?_|decide|refine sp ?_ ?_<;>intro _
theorem jv (m:bb) (l:List al) (prop:Bool) (hl:l.length<=1000):dn Tryz.prog 73 [.agg (aQ m),a7 l,eB prop] fun R=>∃ b,R=val (.bool b) /\ (b=true -> cc (l.map al.op)=0 /\ ∀ i (h:i<l.length),kE m l[i]=true /\ (prop=false -> ¬ (18<l[i].op \/ (10<l[i].op /\ l[i].op<15)))):=by
 refine aM ah Tryz.func73 rfl (by decide) Tryz.ntmps73 Tryz.results73 rfl ?_
 repeat' first|refine go ?_|decide|refine sp ?_ ?_<;>intro _
 refine ae (fun st=>∃ k:Nat,k<=l.length /\ k<=70 /\ st=⟨67,[(1,a7 l),(2,eB prop),(3,.op 0 0 0),(7,.osl 1),(8,eI (k:Int))],[(0,some (.box 32 (aQ m))),(1,some (.row 76 9 (((l.map al.op).take k).map nz)))],2⟩) (fun st=>l.length - aq st 8) ⟨_,((aR 7 76 9 (by simp only [ia,aj.get,aX,aj.put,↓reduceIte,reduceCtorEq,Nat.reduceLT,Nat.reduceEqDiff,Nat.reduceAdd,Nat.reduceLeDiff,eq_self,implies_true,NJ,N3])).trans (wS [0,1] @NJ)),0,Nv _,by omega,rfl⟩ ?_;rintro _ ⟨k,hk,hk70,rfl⟩;have hkl:((l.map al.op).take k).length=k:=by simp;omega
 have hlen2:((l.map al.op).take k).length<=1000000:=by omega
 by_cases hgo:k<l.length /\ k<70
 .obtain ⟨hlt,h70⟩:=hgo;have e1:decide ((k:Int)<70)=true:=by simp;omega
  have et:((l.map al.op).take (k+1)).map nz=((l.map al.op).take k).map nz ++ [nz l[k].op]:=by
   rw [eh nz (l.map al.op) (by simpa using hlt)];simp
  repeat' first|refine go ?_|simp only [ab,hlt,e1]|decide|refine sp ?_ ?_<;>intro _
  refine ⟨rfl,by simp only [hkl,NI,NF];omega,rI (wS [0,3] et) ⟨k+1,by omega,by omega,rfl⟩⟩
 .have hfin:((l.map al.op).take k)=(l.map al.op).take 70:=by
   by_cases h1:k=70
   .rw [h1]
   .rw [NT (by simp;omega),NT (by simp;omega)]
  have hchk:=qh ((l.map al.op).take k) hlen2
  have hE:cc ((l.map al.op).take k)=0 -> cc (l.map al.op)=0:=fun h=>by
   rcases NP 64 l.length with h64|h64
   .exfalso;have:64<((l.map al.op).take k).length:=by omega
    unfold cc at h;rw [Ny (by omega),ND this] at h;cases h
   .rw [NT (by simp;omega)] at h;exact h
  have hcond:decide (k<l.length)=false \/ (decide (k<l.length)=true /\ decide ((k:Int)<70)=false):=by
   by_cases h:k<l.length
   .exact .inr ⟨NL h,NE (by omega)⟩
   .exact .inl (NE h)
  by_cases hz:cc ((l.map al.op).take k)=0
  .have z1:(cc ((l.map al.op).take k) != 0)=false:=(by simp [hz]);have hE:=hE hz;have fin:Eh Tryz.prog (Code.skip) (fun _ _=>True) ⟨0,[],[],0⟩ -> True:=fun _=>trivial;rcases hcond with d1|⟨d1,d2⟩
   .repeat' first|refine ge d1 ?_|decide|refine sp ?_ ?_<;>intro _
    refine aw hchk ?_
    repeat' first|refine ge z1 ?_|decide|refine sp ?_ ?_<;>intro _
    refine ae (fun st=>∃ q:Nat,q<=l.length /\ (∀ i (h:i<l.length),i<q -> kE m l[i]=true /\ (prop=false -> ¬ (18<l[i].op \/ (10<l[i].op /\ l[i].op<15)))) /\ st=⟨67,[(1,a7 l),(2,eB prop),(3,.op 0 0 0),(9,eI (q:Int))],[(0,some (.box 32 (aQ m)))],1⟩) (fun st=>l.length - aq st 9) ⟨_,wC,0,Nv _,fun i h h2=>absurd h2 (by omega),rfl⟩ ?_;rintro _ ⟨q,hq,hI,rfl⟩;by_cases hlt2:q<l.length
    .repeat' first|refine go ?_|simp only [ab,hlt2]|decide|refine sp ?_ ?_<;>intro _
     refine aA (by kernel_rfl) ?_
     repeat' first|refine go ?_|simp only [ab,hlt2]|decide|refine sp ?_ ?_<;>intro _
     refine aL (DS m l[q]) ?_
     repeat' first|refine go ?_|simp only [ab,hlt2]|decide|refine sp ?_ ?_<;>intro _
     all_goals first|with_reducible exact ca ⟨false,rfl,fun h=>by cases h⟩|skip
     all_goals
      refine rI wC ⟨q+1,by omega,fun i h h2=>?_,rfl⟩;rcases NP i q with h3|h3
      .exact hI i h h3
      .obtain rfl:i=q:=by omega
       simp_all
       try omega
    .repeat' first|refine go ?_|simp only [ab,hlt2]|decide|refine sp ?_ ?_<;>intro _
     exact ca ⟨true,rfl,fun _=>⟨hE,fun i h=>hI i h (by omega)⟩⟩
   .repeat' first|refine ge (kf d1 d2) ?_|decide|refine sp ?_ ?_<;>intro _
    refine aw hchk ?_
    repeat' first|refine ge z1 ?_|decide|refine sp ?_ ?_<;>intro _
    refine ae (fun st=>∃ q:Nat,q<=l.length /\ (∀ i (h:i<l.length),i<q -> kE m l[i]=true /\ (prop=false -> ¬ (18<l[i].op \/ (10<l[i].op /\ l[i].op<15)))) /\ st=⟨67,[(1,a7 l),(2,eB prop),(3,.op 0 0 0),(9,eI (q:Int))],[(0,some (.box 32 (aQ m)))],1⟩) (fun st=>l.length - aq st 9) ⟨_,wC,0,Nv _,fun i h h2=>absurd h2 (by omega),rfl⟩ ?_;rintro _ ⟨q,hq,hI,rfl⟩;by_cases hlt2:q<l.length
    .repeat' first|refine go ?_|simp only [ab,hlt2]|decide|refine sp ?_ ?_<;>intro _
     refine aA (by kernel_rfl) ?_
     repeat' first|refine go ?_|simp only [ab,hlt2]|decide|refine sp ?_ ?_<;>intro _
     refine aL (DS m l[q]) ?_
     repeat' first|refine go ?_|simp only [ab,hlt2]|decide|refine sp ?_ ?_<;>intro _
     all_goals first|with_reducible exact ca ⟨false,rfl,fun h=>by cases h⟩|skip
     all_goals
      refine rI wC ⟨q+1,by omega,fun i h h2=>?_,rfl⟩;rcases NP i q with h3|h3
      .exact hI i h h3
      .obtain rfl:i=q:=by omega
       simp_all
       try omega
    .repeat' first|refine go ?_|simp only [ab,hlt2]|decide|refine sp ?_ ?_<;>intro _
     exact ca ⟨true,rfl,fun _=>⟨hE,fun i h=>hI i h (by omega)⟩⟩
  .have z1:(cc ((l.map al.op).take k) != 0)=true:=(by simp [hz]);rcases hcond with d1|⟨d1,d2⟩
   .repeat' first|refine ge d1 ?_|decide|refine sp ?_ ?_<;>intro _
    refine aw hchk ?_
    repeat' first|refine ge z1 ?_|decide|refine sp ?_ ?_<;>intro _
    exact ca ⟨false,rfl,fun h=>by cases h⟩
   .repeat' first|refine ge (kf d1 d2) ?_|decide|refine sp ?_ ?_<;>intro _
    refine aw hchk ?_
    repeat' first|refine ge z1 ?_|decide|refine sp ?_ ?_<;>intro _
    exact ca ⟨false,rfl,fun h=>by cases h⟩
def j3 (l:List Ev):Int:=(l.map fun e=>e.times * (e.sets.length:Int)).sum
structure nl (l:List Ev):Prop where
 each:∀ i (h:i<l.length),0<=l[i].times /\ l[i].times<=3 /\ (l[i].times=0 -> l[i].sets.length=0)
theorem Fh:j3 []=0:=rfl
theorem iO {l:List Ev} {k:Nat} (hk:k<l.length):j3 (l.take (k+1))=j3 (l.take k)+l[k].times * (l[k].sets.length:Int):=by
 unfold j3;rw [Ns hk,OB,List.sum_append];simp
theorem qq {l:List Ev} (hs:∀ e ∈ l,e.sets.length<=10):∀ k,k<=l.length -> (∀ i (h:i<l.length),i<k -> 0<=l[i].times /\ l[i].times<=3) -> 0<=j3 (l.take k) /\ j3 (l.take k)<=30 * (k:Int)
 | 0,_,_=>by simp [j3]
 | k+1,hk,h=>by
  have ih:=qq hs k (by omega) fun i hi h2=>h i hi (by omega);have h1:=h k (by omega) (by omega);have h2:=hs _ (Nt (show k<l.length by omega));rw [iO (by omega)];have h3:0<=l[k].times * (l[k].sets.length:Int):=Int.mul_nonneg h1.1 (by omega);have h4:l[k].times * (l[k].sets.length:Int)<=3 * 10:=Int.mul_le_mul h1.2 (by omega) (by omega) (by omega);omega
theorem BJ (l:List Ev) (hl:l.length<=1000) (hs:∀ e ∈ l,e.sets.length<=10):dn Tryz.prog 23 [.sl 5 (l.map Iu)] fun R=>∃ v,R=val (.int .i64 v) /\ (v<0 \/ (v=j3 l /\ nl l)):=by
 refine aM ah Tryz.func23 rfl (by decide) Tryz.ntmps23 Tryz.results23 rfl ?_
 repeat' first|refine go ?_|decide|refine sp ?_ ?_<;>intro _
 refine ae (fun st=>∃ k:Nat,k<=l.length /\ (∀ i (h:i<l.length),i<k -> 0<=l[i].times /\ l[i].times<=3 /\ (l[i].times=0 -> l[i].sets.length=0)) /\ st=⟨54,[(0,.sl 5 (l.map Iu)),(3,eI (j3 (l.take k))),(4,eI (k:Int))],[],0⟩) (fun st=>l.length - aq st 4) ⟨_,(wE (kf @NJ @Fh)),0,Nv _,fun i h h2=>absurd h2 (by omega),rfl⟩ ?_;rintro _ ⟨k,hk,hI,rfl⟩;have hbd:=qq hs k hk fun i h h2=>⟨(hI i h h2).1,(hI i h h2).2.1⟩;by_cases hlt:k<l.length
 .by_cases hg:0<=l[k].times /\ l[k].times<=3 /\ (l[k].times=0 -> l[k].sets.length=0)
  .have h2:=hs _ (Nt hlt);have h3:0<=l[k].times * (l[k].sets.length:Int):=Int.mul_nonneg hg.1 (by omega);have h4:l[k].times * (l[k].sets.length:Int)<=3 * 10:=Int.mul_le_mul hg.2.1 (by omega) (by omega) (by omega);have e1:IntKind.i64.wrap (l[k].times * (l[k].sets.length:Int))=l[k].times * (l[k].sets.length:Int):=ar (by omega) (by omega)
   have e2:IntKind.i64.wrap (j3 (l.take k)+l[k].times * (l[k].sets.length:Int))=j3 (l.take (k+1)):=by
    rw [iO hlt];exact ar (by omega) (by omega)
   have hI':∀ i (h:i<l.length),i<k+1 -> 0<=l[i].times /\ l[i].times<=3 /\ (l[i].times=0 -> l[i].sets.length=0):=fun i h h2=>by
    rcases NP i k with h3|h3
    .exact hI i h h3
    .obtain rfl:i=k:=by omega
     exact hg
   have d1:decide (l[k].times<0)=false:=NE (by omega);have d2:decide (3<l[k].times)=false:=NE (by omega);by_cases hz:l[k].times=0
   .have d3:(l[k].times == 0)=true:=(by simp [hz]);have d4:decide (0<(l[k].sets.length:Int))=false:=NE (by have:=hg.2.2 hz;omega);have d5:decide (0<l[k].sets.length)=false:=NE (by have:=hg.2.2 hz;omega)
    repeat' first|refine go ?_|simp only [ab,hlt,d1,d2,d3,d4,d5,e1]|decide|refine sp ?_ ?_<;>intro _
    all_goals exact rI (wE (kf e1 e2)) ⟨k+1,by omega,hI',rfl⟩
   .have d3:(l[k].times == 0)=false:=by simp [hz]
    repeat' first|refine go ?_|simp only [ab,hlt,d1,d2,d3,e1]|decide|refine sp ?_ ?_<;>intro _
    all_goals exact rI (wE (kf e1 e2)) ⟨k+1,by omega,hI',rfl⟩
  .have hbad:decide (l[k].times<0)=true \/ (decide (l[k].times<0)=false /\ decide (3<l[k].times)=true) \/ (decide (l[k].times<0)=false /\ decide (3<l[k].times)=false /\ (l[k].times == 0)=true /\ decide (0<(l[k].sets.length:Int))=true /\ decide (0<l[k].sets.length)=true):=by
    by_cases h1:l[k].times<0
    .exact .inl (NL h1)
    by_cases h2:3<l[k].times
    .exact .inr (.inl ⟨NE h1,NL h2⟩)
    have h3:l[k].times=0:=Classical.byContradiction fun h=>hg ⟨by omega,by omega,fun h'=>absurd h' h⟩;have h4:0<l[k].sets.length:=Nat.pos_of_ne_zero fun h=>hg ⟨by omega,by omega,fun _=>h⟩;exact .inr (.inr ⟨NE h1,NE h2,by simp [h3],NL (by omega),NL h4⟩)
   rcases hbad with d1|⟨d1,d2⟩|⟨d1,d2,d3,d4,d5⟩
   .repeat' first|refine go ?_|simp only [ab,hlt,d1]|decide|refine sp ?_ ?_<;>intro _
    exact ca ⟨-1,rfl,.inl (by omega)⟩
   .repeat' first|refine go ?_|simp only [ab,hlt,d1,d2]|decide|refine sp ?_ ?_<;>intro _
    exact ca ⟨-1,rfl,.inl (by omega)⟩
   .repeat' first|refine go ?_|simp only [ab,hlt,d1,d2,d3,d4,d5]|decide|refine sp ?_ ?_<;>intro _
    all_goals exact ca ⟨-1,rfl,.inl (by omega)⟩
 .obtain rfl:k=l.length:=by omega
  repeat' first|refine ge @hlt ?_|decide|refine sp ?_ ?_<;>intro _
  exact ca ⟨_,rfl,.inr ⟨by simp only [NG],⟨fun i h=>hI i h h⟩⟩⟩
end
end
section
section
def MI (m:bb) (l:List al):Prop:=cc (l.map al.op)=0 /\ ∀ i (h:i<l.length),kE m l[i]=true /\ ¬ (18<l[i].op \/ (10<l[i].op /\ l[i].op<15))
def E7 (m:bb) (l:List Int):Prop:=∀ i (h:i<l.length),dx l[i] m.attrs.length=true /\ ∀ j (h:j<i),l[j] ≠ l[i]
def FF (m:bb) (p:ByteArray × Int):Prop:=0<p.2 /\ p.2<16 /\ p.2<=((2 ^ m.users.length - 1:Nat):Int)
def xx (m:bb) (p:ByteArray × Int):Prop:=p.2 = -1 \/ dx p.2 m.stages.length=true
def yl (m:bb) (e:Ev):Prop:=dx e.role m.roles.length=true /\ dx e.stage m.stages.length=true /\ E7 m e.sets
def sW (m:bb) (st ev:Int) (l:List al):Prop:=dx st m.stages.length=true /\ (ev = -1 \/ dx ev m.events.length=true) /\ MI m l
def IY (m:bb) (p:Int × Int):Prop:=dx p.1 m.events.length=true /\ dx p.2 m.events.length=true /\ p.1 ≠ p.2
structure xz (m:bb):Prop where
 roles:∀ i (h:i<m.roles.length),FF m m.roles[i]
 stages:∀ i (h:i<m.stages.length),xx m m.stages[i]
 events:∀ i (h:i<m.events.length),yl m m.events[i]
 guards:∀ i (h:i<m.guards.length),sW m m.guards[i].stage m.guards[i].event m.guards[i].cond
 miles:∀ i (h:i<m.miles.length),sW m m.miles[i].stage m.miles[i].event m.miles[i].cond
 sods:∀ i (h:i<m.sods.length),IY m m.sods[i]
def p4 {α:Type} (l:List α) (p:α -> Prop) (k:Nat):Prop:=∀ i (h:i<l.length),i<k -> p l[i]
theorem p4.zero {α:Type} (l:List α) (p:α -> Prop):p4 l p 0:=fun i h h2=>absurd h2 (by omega)
theorem p4.succ {α:Type} {l:List α} {p:α -> Prop} {k:Nat} (h:p4 l p k) (hk:k<l.length) (hp:p l[k]):p4 l p (k+1):=fun i hi h2=>by
 rcases NP i k with h3|h3
 .exact h i hi h3
 .obtain rfl:i=k:=by omega
  exact hp
theorem Iv (m:bb) (l:List Int) (hl:l.length<=1000000):∃ b,ax Tryz.prog 72 [.agg (aQ m),sI l] (val (.bool b)) /\ (b=true -> E7 m l):=by
 classical
 exact ⟨decide (∀ i (h:i<l.length),dx l[i] m.attrs.length=true /\ ∀ j (h:j<i),l[j] ≠ l[i]),Js m l hl _ (by simp),fun h=>by unfold E7;simpa using h⟩
def NM (m:bb) (a b c d e f:Nat):Prop:=p4 m.roles (FF m) a /\ p4 m.stages (xx m) b /\ p4 m.events (yl m) c /\ p4 m.guards (fun g=>sW m g.stage g.event g.cond) d /\ p4 m.miles (fun g=>sW m g.stage g.event g.cond) e /\ p4 m.sods (IY m) f
theorem NM.s1 {m:bb} {a b c d e f:Nat} (h:NM m a b c d e f) (hk:a<m.roles.length) (hp:FF m m.roles[a]):NM m (a+1) b c d e f:=⟨h.1.succ hk hp,h.2⟩
theorem NM.s2 {m:bb} {a b c d e f:Nat} (h:NM m a b c d e f) (hk:b<m.stages.length) (hp:xx m m.stages[b]):NM m a (b+1) c d e f:=⟨h.1,h.2.1.succ hk hp,h.2.2⟩
theorem NM.s3 {m:bb} {a b c d e f:Nat} (h:NM m a b c d e f) (hk:c<m.events.length) (hp:yl m m.events[c]):NM m a b (c+1) d e f:=⟨h.1,h.2.1,h.2.2.1.succ hk hp,h.2.2.2⟩
theorem NM.s4 {m:bb} {a b c d e f:Nat} (h:NM m a b c d e f) (hk:d<m.guards.length) (hp:sW m m.guards[d].stage m.guards[d].event m.guards[d].cond):NM m a b c (d+1) e f:=⟨h.1,h.2.1,h.2.2.1,h.2.2.2.1.succ hk hp,h.2.2.2.2⟩
theorem NM.s5 {m:bb} {a b c d e f:Nat} (h:NM m a b c d e f) (hk:e<m.miles.length) (hp:sW m m.miles[e].stage m.miles[e].event m.miles[e].cond):NM m a b c d (e+1) f:=⟨h.1,h.2.1,h.2.2.1,h.2.2.2.1,h.2.2.2.2.1.succ hk hp,h.2.2.2.2.2⟩
theorem NM.s6 {m:bb} {a b c d e f:Nat} (h:NM m a b c d e f) (hk:f<m.sods.length) (hp:IY m m.sods[f]):NM m a b c d e (f+1):=⟨h.1,h.2.1,h.2.2.1,h.2.2.2.1,h.2.2.2.2.1,h.2.2.2.2.2.succ hk hp⟩
theorem NM.named {m:bb} (h:NM m m.roles.length m.stages.length m.events.length m.guards.length m.miles.length m.sods.length):xz m:=⟨fun i hi=>h.1 i hi hi,fun i hi=>h.2.1 i hi hi,fun i hi=>h.2.2.1 i hi hi,fun i hi=>h.2.2.2.1 i hi hi,fun i hi=>h.2.2.2.2.1 i hi hi,fun i hi=>h.2.2.2.2.2 i hi hi⟩
theorem DU (m:bb) (hf:rL m):dn Tryz.prog 22 [.agg (aQ m)] fun R=>∃ b,R=val (.bool b) /\ (b=true -> xz m):=by
 refine aM ah Tryz.func22 rfl (by decide) Tryz.ntmps22 Tryz.results22 rfl ?_;obtain ⟨hg,hm,hst,hev,hat,hus,hro,hso,-⟩:=id hf.sizes
 repeat' first|refine go ?_|decide|refine sp ?_ ?_<;>intro _
 refine ae (fun st=>∃ (k:Nat) (b:Bool),k<=m.roles.length /\ (b=true -> NM m k 0 0 0 0 0) /\ st=⟨233,[(1,.op 0 0 0),(3,eB b),(4,eI (k:Int))],[(0,some (.box 32 (aQ m)))],1⟩) (fun st=>m.roles.length - aq st 4) ⟨_,wC,0,true,Nv _,fun _=>⟨.zero _ _,.zero _ _,.zero _ _,.zero _ _,.zero _ _,.zero _ _⟩,rfl⟩ ?_;rintro _ ⟨k,b,hk,hI,rfl⟩;by_cases hlt:k<m.roles.length
 .repeat' first|refine go ?_|simp only [ab,hlt]|decide|refine sp ?_ ?_<;>intro _
  all_goals first|with_reducible exact rI wC ⟨k+1,false,by omega,(fun h=>by cases h),rfl⟩|skip
  refine aw (Kw m.users.length (by omega)) ?_
  repeat' first|refine go ?_|simp only [ab,hlt]|decide|refine sp ?_ ?_<;>intro _
  refine rI wC ⟨k+1,decide (m.roles[k].2<=((2 ^ m.users.length - 1:Nat):Int)),by omega,fun h=>(hI (by assumption)).s1 hlt ⟨?_,?_,of_decide_eq_true h⟩,rfl⟩;all_goals (apply of_decide_eq_true;assumption)
 obtain rfl:k=m.roles.length:=by omega
 repeat' first|refine go ?_|simp only [ab,hlt]|decide|refine sp ?_ ?_<;>intro _
 clear hk hlt;refine ae (fun st=>∃ (k:Nat) (b:Bool),k<=m.stages.length /\ (b=true -> NM m m.roles.length k 0 0 0 0) /\ st=⟨233,[(1,.op 0 0 0),(3,eB b),(6,eI (k:Int))],[(0,some (.box 32 (aQ m)))],1⟩) (fun st=>m.stages.length - aq st 6) ⟨_,wC,0,b,Nv _,hI,rfl⟩ ?_;clear hI b;rintro _ ⟨k,b,hk,hI,rfl⟩;by_cases hlt:k<m.stages.length
 .repeat' first|refine go ?_|simp only [ab,hlt]|decide|refine sp ?_ ?_<;>intro _
  all_goals first|with_reducible exact rI wC ⟨k+1,false,by omega,(fun h=>by cases h),rfl⟩|skip
  all_goals first|exact rI wC ⟨k+1,true,by omega,(fun h=>(hI (by assumption)).s2 hlt (.inl (eq_of_beq (by assumption)))),rfl⟩|skip
  refine aw (rO m.stages[k].2 m.stages.length) ?_
  repeat' first|refine go ?_|simp only [ab,hlt]|decide|refine sp ?_ ?_<;>intro _
  exact rI wC ⟨k+1,dx m.stages[k].2 m.stages.length,by omega,(fun h=>(hI (by assumption)).s2 hlt (.inr h)),rfl⟩
 obtain rfl:k=m.stages.length:=by omega
 repeat' first|refine go ?_|simp only [ab,hlt]|decide|refine sp ?_ ?_<;>intro _
 clear hk hlt;refine ae (fun st=>∃ (k:Nat) (b:Bool),k<=m.events.length /\ (b=true -> NM m m.roles.length m.stages.length k 0 0 0) /\ st=⟨233,[(1,.op 0 0 0),(3,eB b),(8,eI (k:Int))],[(0,some (.box 32 (aQ m)))],1⟩) (fun st=>m.events.length - aq st 8) ⟨_,wC,0,b,Nv _,hI,rfl⟩ ?_;clear hI b;rintro _ ⟨k,b,hk,hI,rfl⟩;by_cases hlt:k<m.events.length
 .have hs:=hf.events _ (Nt hlt);obtain ⟨x,hx,hxp⟩:=Iv m m.events[k].sets (by omega)
  repeat' first|refine go ?_|simp only [ab,hlt]|decide|refine sp ?_ ?_<;>intro _
  all_goals first|with_reducible exact rI wC ⟨k+1,false,by omega,(fun h=>by cases h),rfl⟩|skip
  refine aw (rO _ _) ?_
  repeat' first|refine go ?_|simp only [ab,hlt]|decide|refine sp ?_ ?_<;>intro _
  all_goals first|with_reducible exact rI wC ⟨k+1,false,by omega,(fun h=>by cases h),rfl⟩|skip
  refine aw (rO _ _) ?_
  repeat' first|refine go ?_|simp only [ab,hlt]|decide|refine sp ?_ ?_<;>intro _
  all_goals first|with_reducible exact rI wC ⟨k+1,false,by omega,(fun h=>by cases h),rfl⟩|skip
  refine aw hx ?_
  repeat' first|refine go ?_|simp only [ab,hlt]|decide|refine sp ?_ ?_<;>intro _
  exact rI wC ⟨k+1,x,by omega,(fun h=>(hI (by assumption)).s3 hlt ⟨by assumption,by assumption,hxp h⟩),rfl⟩
 obtain rfl:k=m.events.length:=by omega
 repeat' first|refine go ?_|simp only [ab,hlt]|decide|refine sp ?_ ?_<;>intro _
 clear hk hlt;refine ae (fun st=>∃ (k:Nat) (b:Bool),k<=m.guards.length /\ (b=true -> NM m m.roles.length m.stages.length m.events.length k 0 0) /\ st=⟨233,[(1,.op 0 0 0),(3,eB b),(10,eI (k:Int))],[(0,some (.box 32 (aQ m)))],1⟩) (fun st=>m.guards.length - aq st 10) ⟨_,wC,0,b,Nv _,hI,rfl⟩ ?_;clear hI b;rintro _ ⟨k,b,hk,hI,rfl⟩;by_cases hlt:k<m.guards.length
 .have hs:=hf.guards _ (Nt hlt)
  repeat' first|refine go ?_|simp only [ab,hlt]|decide|refine sp ?_ ?_<;>intro _
  all_goals first|with_reducible exact rI wC ⟨k+1,false,by omega,(fun h=>by cases h),rfl⟩|skip
  refine aw (rO _ _) ?_
  repeat' first|refine go ?_|simp only [ab,hlt]|decide|refine sp ?_ ?_<;>intro _
  all_goals first|with_reducible exact rI wC ⟨k+1,false,by omega,(fun h=>by cases h),rfl⟩|skip
  .refine gA (jv m m.guards[k].cond false (by omega)) fun x hx=>?_
   repeat' first|refine go ?_|simp only [ab,hlt]|decide|refine sp ?_ ?_<;>intro _
   exact rI wC ⟨k+1,x,by omega,(fun h=>(hI (by assumption)).s4 hlt ⟨by assumption,.inl (eq_of_beq (by assumption)),(hx h).1,fun i hi=>⟨((hx h).2 i hi).1,((hx h).2 i hi).2 rfl⟩⟩),rfl⟩
  .refine aw (rO _ _) ?_
   repeat' first|refine go ?_|simp only [ab,hlt]|decide|refine sp ?_ ?_<;>intro _
   all_goals first|with_reducible exact rI wC ⟨k+1,false,by omega,(fun h=>by cases h),rfl⟩|skip
   refine gA (jv m m.guards[k].cond false (by omega)) fun x hx=>?_
   repeat' first|refine go ?_|simp only [ab,hlt]|decide|refine sp ?_ ?_<;>intro _
   exact rI wC ⟨k+1,x,by omega,(fun h=>(hI (by assumption)).s4 hlt ⟨by assumption,.inr (by assumption),(hx h).1,fun i hi=>⟨((hx h).2 i hi).1,((hx h).2 i hi).2 rfl⟩⟩),rfl⟩
 obtain rfl:k=m.guards.length:=by omega
 repeat' first|refine go ?_|simp only [ab,hlt]|decide|refine sp ?_ ?_<;>intro _
 clear hk hlt;refine ae (fun st=>∃ (k:Nat) (b:Bool),k<=m.miles.length /\ (b=true -> NM m m.roles.length m.stages.length m.events.length m.guards.length k 0) /\ st=⟨233,[(1,.op 0 0 0),(3,eB b),(12,eI (k:Int))],[(0,some (.box 32 (aQ m)))],1⟩) (fun st=>m.miles.length - aq st 12) ⟨_,wC,0,b,Nv _,hI,rfl⟩ ?_;clear hI b;rintro _ ⟨k,b,hk,hI,rfl⟩;by_cases hlt:k<m.miles.length
 .have hs:=hf.miles _ (Nt hlt)
  repeat' first|refine go ?_|simp only [ab,hlt]|decide|refine sp ?_ ?_<;>intro _
  all_goals first|with_reducible exact rI wC ⟨k+1,false,by omega,(fun h=>by cases h),rfl⟩|skip
  refine aw (rO _ _) ?_
  repeat' first|refine go ?_|simp only [ab,hlt]|decide|refine sp ?_ ?_<;>intro _
  all_goals first|with_reducible exact rI wC ⟨k+1,false,by omega,(fun h=>by cases h),rfl⟩|skip
  .refine gA (jv m m.miles[k].cond false (by omega)) fun x hx=>?_
   repeat' first|refine go ?_|simp only [ab,hlt]|decide|refine sp ?_ ?_<;>intro _
   exact rI wC ⟨k+1,x,by omega,(fun h=>(hI (by assumption)).s5 hlt ⟨by assumption,.inl (eq_of_beq (by assumption)),(hx h).1,fun i hi=>⟨((hx h).2 i hi).1,((hx h).2 i hi).2 rfl⟩⟩),rfl⟩
  .refine aw (rO _ _) ?_
   repeat' first|refine go ?_|simp only [ab,hlt]|decide|refine sp ?_ ?_<;>intro _
   all_goals first|with_reducible exact rI wC ⟨k+1,false,by omega,(fun h=>by cases h),rfl⟩|skip
   refine gA (jv m m.miles[k].cond false (by omega)) fun x hx=>?_
   repeat' first|refine go ?_|simp only [ab,hlt]|decide|refine sp ?_ ?_<;>intro _
   exact rI wC ⟨k+1,x,by omega,(fun h=>(hI (by assumption)).s5 hlt ⟨by assumption,.inr (by assumption),(hx h).1,fun i hi=>⟨((hx h).2 i hi).1,((hx h).2 i hi).2 rfl⟩⟩),rfl⟩
 obtain rfl:k=m.miles.length:=by omega
 repeat' first|refine go ?_|simp only [ab,hlt]|decide|refine sp ?_ ?_<;>intro _
 clear hk hlt;refine ae (fun st=>∃ (k:Nat) (b:Bool),k<=m.sods.length /\ (b=true -> NM m m.roles.length m.stages.length m.events.length m.guards.length m.miles.length k) /\ st=⟨233,[(1,.op 0 0 0),(3,eB b),(14,eI (k:Int))],[(0,some (.box 32 (aQ m)))],1⟩) (fun st=>m.sods.length - aq st 14) ⟨_,wC,0,b,Nv _,hI,rfl⟩ ?_;clear hI b;rintro _ ⟨k,b,hk,hI,rfl⟩;by_cases hlt:k<m.sods.length
 .repeat' first|refine go ?_|simp only [ab,hlt]|decide|refine sp ?_ ?_<;>intro _
  refine aA (by kernel_rfl) ?_
  repeat' first|refine go ?_|simp only [ab,hlt]|decide|refine sp ?_ ?_<;>intro _
  all_goals first|with_reducible exact rI wC ⟨k+1,false,by omega,(fun h=>by cases h),rfl⟩|skip
  refine aL (rO _ _) ?_
  repeat' first|refine go ?_|simp only [ab,hlt]|decide|refine sp ?_ ?_<;>intro _
  all_goals first|with_reducible exact rI wC ⟨k+1,false,by omega,(fun h=>by cases h),rfl⟩|skip
  refine aL (rO _ _) ?_
  repeat' first|refine go ?_|simp only [ab,hlt]|decide|refine sp ?_ ?_<;>intro _
  all_goals first|with_reducible exact rI wC ⟨k+1,false,by omega,(fun h=>by cases h),rfl⟩|skip
  exact rI wC ⟨k+1,(m.sods[k].1 != m.sods[k].2),by omega,(fun h=>(hI (by assumption)).s6 hlt ⟨by assumption,by assumption,by simpa using h⟩),rfl⟩
 obtain rfl:k=m.sods.length:=by omega
 repeat' first|refine go ?_|simp only [ab,hlt]|decide|refine sp ?_ ?_<;>intro _
 exact ca ⟨_,rfl,fun h=>(hI h).named⟩
end
section
def Kr (m:bb) (x:Bool × Int):Int:=if x.1=true then (m.miles[x.2.toNat]?.map (·.stage)).getD 0 else (m.guards[x.2.toNat]?.map (·.stage)).getD 0
end
section
theorem G2 {m:bb} (hp:∀ p ∈ m.stages,aB p.2):∀ x ∈ fF m,aB x:=fun x hx=>by
 obtain ⟨p,hp',rfl⟩:=NC.1 hx;exact hp p hp'
end
end
section
section
noncomputable def xL (m:bb) (x:al) (y:Nat):Bool:=
 if x.op=9 then bP m y == x.n || (!decide (y<m.guards.length) && decide (Hm (fF m) (bP m y) x.n))
 else if x.op=10 then (if y<m.guards.length then decide (0<=x.n) && decide (x.n<(m.miles.length:Int)) && (Kr m (true,x.n) == bP m y) else ((y - m.guards.length:Nat):Int) == x.n) else false
theorem MT (m:bb) (x:al) (y:Nat) (hf:rL m) (hp:∀ p ∈ m.stages,aB p.2) (hy:y<m.guards.length+m.miles.length):ax Tryz.prog 116 [.agg (aQ m),.agg (eD x),eI (y:Int)] (val (.bool (xL m x y))):=by
 refine aa ah Tryz.func116 rfl (by decide) Tryz.ntmps116 Tryz.results116 rfl (aH _) ?_;obtain ⟨hg,hm,hst,-⟩:=id hf.sizes;obtain ⟨op,la,ln,ra,rn,n,u⟩:=x;have hpl:(fF m).length<=1073741824:=by simp [fF];omega
 by_cases h9:op=9
 .subst h9;have z1:((9:Int) == 9)=true:=rfl;have e0:xL m ⟨9,la,ln,ra,rn,n,u⟩ y=(bP m y == n || (!decide (y<m.guards.length) && decide (Hm (fF m) (bP m y) n))):=by simp [xL]
  rw [e0]
  repeat' first|refine ge z1 ?_|decide|refine sp ?_ ?_<;>intro _
  refine aD [] [0,1,3,4] (.exec 2 (.take 5 (.take 6 (.take 7 (.take 8 (.take 9 (.take 10 (.take 12 (.take 13 (.take 15 (.take 16 (.exec 11 (.exec 14 (.exec 17 (.take 18 (.take 19 (.exec 20 .done))))))))))))))))) (by kernel_rfl) (by simp) ?_
  repeat' first|refine go ?_|decide|refine sp ?_ ?_<;>intro _
  refine aw (jq m y hf hy) ?_;by_cases hs:bP m y=n
  .have z2:(bP m y == n)=true:=(by simp [hs]);rw [z2]
   repeat' first|refine ge z2 ?_|decide|refine sp ?_ ?_<;>intro _
   all_goals simp
  .have z2:(bP m y == n)=false:=(by simp [hs]);rw [z2,PX];by_cases hgd:y<m.guards.length
   .have z3:decide (y<m.guards.length)=true:=NL hgd;rw [z3]
    repeat' first|refine ge (kf z2 z3) ?_|decide|refine sp ?_ ?_<;>intro _
    all_goals try simp
   .have z3:decide (y<m.guards.length)=false:=NE hgd;rw [z3]
    repeat' first|refine ge (kf z2 z3) ?_|decide|refine sp ?_ ?_<;>intro _
    refine ce (mO m (by omega)) (.inr dT) ?_
    repeat' first|refine ge (kf z2 z3) ?_|decide|refine sp ?_ ?_<;>intro _
    refine aw (jq m y hf hy) ?_
    repeat' first|refine ge (kf z2 z3) ?_|decide|refine sp ?_ ?_<;>intro _
    refine aw (IH (fF m) (bP m y) n hpl (G2 hp)) ?_
    repeat' first|refine ge (kf z2 z3) ?_|decide|refine sp ?_ ?_<;>intro _
    all_goals simp
 by_cases h10:op=10
 .subst h10;have z1:((10:Int) == 9)=false:=rfl;have z4:((10:Int) == 10)=true:=rfl;by_cases hgd:y<m.guards.length
  .have z3:decide (y<m.guards.length)=true:=NL hgd;have e0:xL m ⟨10,la,ln,ra,rn,n,u⟩ y=(decide (0<=n) && decide (n<(m.miles.length:Int)) && (Kr m (true,n) == bP m y)):=(by simp [xL,hgd]);rw [e0];by_cases hn:0<=n /\ n<(m.miles.length:Int)
   .obtain ⟨j,rfl⟩:∃ j:Nat,n=(j:Int):=⟨n.toNat,by omega⟩;have hj:j<m.miles.length:=(by omega)
    repeat' first|refine ge (kf z1 (kf z3 z4)) ?_|decide|refine sp ?_ ?_<;>intro _
    refine aA (by kernel_rfl) ?_
    repeat' first|refine go ?_|simp only [z4,ab,hj]|decide|refine sp ?_ ?_<;>intro _
    refine aL (jq m y hf hy) ?_
    repeat' first|refine go ?_|simp only [z4,ab,hj]|decide|refine sp ?_ ?_<;>intro _
    simp [Kr,hj]
   .have hn2:decide (0<=n)=false \/ decide (n<(m.miles.length:Int))=false:=by
     rcases Int.lt_or_le n 0 with h|h
     .left;simp;omega
     .right;simp;omega
    rcases hn2 with hn2|hn2
    .rw [hn2]
     repeat' first|refine ge (kf z1 (kf z3 z4)) ?_|decide|refine sp ?_ ?_<;>intro _
     refine aA (by kernel_rfl) ?_
     repeat' first|refine ge (kf z4 hn2) ?_|decide|refine sp ?_ ?_<;>intro _
     all_goals simp
    .rw [hn2]
     repeat' first|refine ge (kf z1 (kf z3 z4)) ?_|decide|refine sp ?_ ?_<;>intro _
     refine aA (by kernel_rfl) ?_
     repeat' first|refine ge (kf z4 hn2) ?_|decide|refine sp ?_ ?_<;>intro _
     all_goals simp
  .have z3:decide (y<m.guards.length)=false:=NE hgd;have e0:xL m ⟨10,la,ln,ra,rn,n,u⟩ y=(((y - m.guards.length:Nat):Int) == n):=(by simp [xL,hgd]);rw [e0];have ew:IntKind.i64.wrap ((y:Int) - (m.guards.length:Int))=((y - m.guards.length:Nat):Int):=by rw [ar (by omega) (by omega)];omega
   repeat' first|refine ge (kf z1 (kf z3 (kf z4 ew))) ?_|decide|refine sp ?_ ?_<;>intro _
 .have z1:(op == 9)=false:=by simp [h9]
  have z4:(op == 10)=false:=by simp [h10]
  have e0:xL m ⟨op,la,ln,ra,rn,n,u⟩ y=false:=by simp [xL,h9,h10]
  rw [e0]
  repeat' first|refine ge (kf z1 z4) ?_|decide|refine sp ?_ ?_<;>intro _
  all_goals
   refine aA (by kernel_rfl) ?_
   repeat' first|refine ge (kf z1 z4) ?_|decide|refine sp ?_ ?_<;>intro _
noncomputable def iG (m:bb) (x y:Nat):Bool:=((jG m x).any fun i=>xL m i y) || (decide (y<m.guards.length) && (if x<m.guards.length then decide (0<=bP m x) && decide (bP m x<(m.stages.length:Int)) && ((m.stages[(bP m x).toNat]?.map (·.2)).getD 0 == bP m y) else bP m x == bP m y))
theorem rW {α:Type} (l:List α) (p:α -> Bool) {k:Nat} (h:k<l.length):(l.take (k+1)).any p=((l.take k).any p || p l[k]):=by
 rw [Ns h,List.any_append];simp
theorem DE (m:bb) (x y:Nat) (hf:rL m) (hp:∀ p ∈ m.stages,aB p.2) (hx:x<m.guards.length+m.miles.length) (hy:y<m.guards.length+m.miles.length):ax Tryz.prog 76 [.agg (aQ m),eI (x:Int),eI (y:Int)] (val (.bool (iG m x y))):=by
 refine aa ah Tryz.func76 rfl (by decide) Tryz.ntmps76 Tryz.results76 rfl (aH _) ?_;obtain ⟨hg,hm,-⟩:=id hf.sizes
 repeat' first|refine go ?_|decide|refine sp ?_ ?_<;>intro _
 refine bI (JG m x hf hx) (ro) ?_;have hcl:=zh m hf x;obtain ⟨l,hl⟩:∃ l,l=jG m x:=⟨_,rfl⟩;obtain ⟨w,hw⟩:∃ w,w=iG m x y:=⟨_,rfl⟩;have hwd:iG m x y=(l.any (fun i=>xL m i y) || (decide (y<m.guards.length) && (if x<m.guards.length then decide (0<=bP m x) && decide (bP m x<(m.stages.length:Int)) && ((m.stages[(bP m x).toNat]?.map (·.2)).getD 0 == bP m y) else bP m x == bP m y))):=by rw [hl];rfl
 rw [<- hl] at hcl ⊢;rw [<- hw] at hwd ⊢
 repeat' first|refine go ?_|decide|refine sp ?_ ?_<;>intro _
 refine ae (fun st=>∃ (k:Nat),(k<=l.length /\ (l.take k).any (fun i=>xL m i y)=false) /\ st=⟨65,[(1,eI (x:Int)),(2,eI (y:Int)),(3,.op 0 0 0),(7,a7 l),(8,eI (k:Int))],[(0,some (.box 32 (aQ m)))],1⟩) (fun st=>l.length - aq st 8) ⟨_,wC,0,⟨Nv _,rfl⟩,rfl⟩ ?_;rintro _ ⟨k,⟨hk,hI⟩,rfl⟩;by_cases hlt:k<l.length
 .repeat' first|refine go ?_|simp only [ab,hlt]|decide|refine sp ?_ ?_<;>intro _
  refine aD [] [0,1,2,3,4,5] (.exec 6 .done) (by kernel_rfl) (by simp) ?_
  repeat' first|refine go ?_|simp only [ab,hlt]|decide|refine sp ?_ ?_<;>intro _
  refine aw (MT m l[k] y hf hp hy) ?_;have hst:=rW l (fun i=>xL m i y) hlt
  cases hb:xL m l[k] y with
  | true=>
   have hwt:w=true:=by
    have:l.any (fun i=>xL m i y)=true:=List.any_eq_true.2 ⟨_,Nt hlt,hb⟩;rw [hwd,this,Bool.true_or]
   rw [hwt]
   repeat' first|refine go ?_|simp only [ab,hlt]|decide|refine sp ?_ ?_<;>intro _
  | false=>
   repeat' first|refine go ?_|simp only [ab,hlt]|decide|refine sp ?_ ?_<;>intro _
   exact rI wC ⟨k+1,⟨by omega,by rw [hst,hI,hb];rfl⟩,rfl⟩
 .obtain rfl:k=l.length:=by omega
  rw [NG] at hI;rw [hI,PX] at hwd;by_cases hgd:y<m.guards.length
  .have z3:decide (y<m.guards.length)=true:=NL hgd;rw [z3,Oq] at hwd;have z3n:decide (m.guards.length<=y)=false:=NE (by omega);by_cases hxg:x<m.guards.length
   .have z5:decide (m.guards.length<=x)=false:=NE (by omega);rw [ND hxg] at hwd
    repeat' first|refine ge (kf @hlt (kf @z3n z5)) ?_|decide|refine sp ?_ ?_<;>intro _
    refine aw (jq m x hf hx) ?_;generalize bP m x=sx at *
    repeat' first|refine ge z5 ?_|decide|refine sp ?_ ?_<;>intro _
    by_cases hn:0<=sx /\ sx<(m.stages.length:Int)
    .obtain ⟨j,rfl⟩:∃ j:Nat,sx=(j:Int):=⟨sx.toNat,by omega⟩;have hj:j<m.stages.length:=(by omega);have hwe:w=(m.stages[j].2 == bP m y):=by rw [hwd];simp [hj]
     rw [hwe];refine aA (by kernel_rfl) ?_
     repeat' first|refine go ?_|simp only [ab,hj]|decide|refine sp ?_ ?_<;>intro _
     refine aL (jq m y hf hy) ?_
     repeat' first|refine go ?_|simp only [ab,hj]|decide|refine sp ?_ ?_<;>intro _
    .have hn2:decide (0<=sx)=false \/ (decide (0<=sx)=true /\ decide (sx<(m.stages.length:Int))=false):=by
      rcases Int.lt_or_le sx 0 with h|h
      .left;simp;omega
      .right;exact ⟨NL h,by simp;omega⟩
     rcases hn2 with hn2|⟨hn1,hn2⟩
     .rw [hn2,Os,Os] at hwd;rw [hwd];refine aA (by kernel_rfl) ?_
      repeat' first|refine ge hn2 ?_|decide|refine sp ?_ ?_<;>intro _
     .rw [hn1,hn2,Oq,Os] at hwd;rw [hwd];refine aA (by kernel_rfl) ?_
      repeat' first|refine ge (kf hn1 hn2) ?_|decide|refine sp ?_ ?_<;>intro _
   .have z5:decide (m.guards.length<=x)=true:=NL (by omega);rw [Ny hxg] at hwd;rw [hwd]
    repeat' first|refine ge (kf @hlt (kf @z3n z5)) ?_|decide|refine sp ?_ ?_<;>intro _
    refine aw (jq m x hf hx) ?_
    repeat' first|refine ge z5 ?_|decide|refine sp ?_ ?_<;>intro _
    refine aw (jq m y hf hy) ?_
    repeat' first|refine go ?_|decide|refine sp ?_ ?_<;>intro _
  .have z3:decide (y<m.guards.length)=false:=NE hgd;rw [z3,Os] at hwd;rw [hwd];have z3n:decide (m.guards.length<=y)=true:=NL (by omega)
   repeat' first|refine ge (kf @hlt @z3n) ?_|decide|refine sp ?_ ?_<;>intro _
end
section
abbrev BM (m:bb):Nat:=m.guards.length+m.miles.length
def wM (m:bb) (js:List Nat) (i:Nat):Prop:=i ∉ js /\ ∀ k,k<BM m -> k ∈ js \/ iG m i k=false
structure CX (m:bb) (js:List Nat) (i:Nat):Prop where
 lt:i<BM m
 free:wM m js i
 first:∀ i',i'<i -> ¬ wM m js i'
def nP (m:bb) (js:List Nat):Prop:=∀ j (h:j<js.length),CX m (js.take j) js[j]
theorem wL {m:bb} {js:List Nat} {i:Nat} (h:nP m js) (hi:CX m js i):nP m (js ++ [i]):=fun j hj=>by
 rw [NB,N4] at hj;rcases NP j js.length with h3|h3
 .rw [OO (by omega),Pk h3];exact h j h3
 .obtain rfl:j=js.length:=by omega
  rw [OO (by omega),NG,PC (by omega)];simpa using hi
theorem tF {bs:List Bool} {js:List Nat} {n j:Nat} (hb:∀ i (h:i<bs.length),bs[i]=decide (i ∈ js)):∀ i (h:i<(bs.set j true).length),(bs.set j true)[i]=decide (i ∈ js ++ [j]):=fun i h=>by
 rw [List.getElem_set];split
 .rename_i e;subst e;simp
 .rename_i e;rw [hb];simp [Ne.symm e]
theorem Fl (m:bb) (hf:rL m) (hp:∀ p ∈ m.stages,aB p.2):dn Tryz.prog 26 [.agg (aQ m)] fun R=>(∃ js:List Nat,R=⟨.tup [.osl 0,eI 0],[(0,some (.row 154 2 ((js.map (md m)).map uK)))],1⟩ /\ js.length=BM m /\ nP m js) \/ R=⟨.tup [.c (.slice none 0 0),eI 10],[],0⟩:=by
 refine aM ah Tryz.func26 rfl (by decide) Tryz.ntmps26 Tryz.results26 rfl ?_;obtain ⟨hg,hm,-⟩:=id hf.sizes
 repeat' first|refine go ?_|decide|refine sp ?_ ?_<;>intro _
 refine aw (HB m hf) ?_;obtain ⟨n,hn⟩:∃ n,n=m.guards.length+m.miles.length:=⟨_,rfl⟩;have hnS:BM m=n:=hn.symm;rw [<- hn]
 repeat' first|refine go ?_|decide|refine sp ?_ ?_<;>intro _
 refine ⟨by omega,?_⟩;refine ae (fun st=>∃ (bs:List Bool) (js:List Nat),(bs.length=n /\ js.length<=n /\ (∀ i (h:i<bs.length),bs[i]=decide (i ∈ js)) /\ nP m js) /\ st=⟨66,[(1,.op 0 0 0),(4,eI (n:Int)),(5,.osl 1),(6,.osl 2)],[(0,some (.box 32 (aQ m))),(1,some (.row 4 1 (bs.map fun b=>[eB b]))),(2,some (.row 154 2 ((js.map (md m)).map uK)))],3⟩) (fun st=>n - ur st 2) ⟨_,((aR 6 154 2 (by simp only [ia,aj.get,aX,aj.put,↓reduceIte,reduceCtorEq,Nat.reduceLT,Nat.reduceEqDiff,Nat.reduceAdd,Nat.reduceLeDiff,eq_self,implies_true,N3,PA])).trans (wS [0,1,2] @PA)),List.replicate n false,[],⟨by simp,Nv _,fun i h=>by simp,fun j h=>by simp at h⟩,rfl⟩ ?_;rintro _ ⟨bs,js,⟨hbs,ho,hbd,hgr⟩,rfl⟩;have hol:(js.map (md m)).length=js.length:=NI ..;by_cases hlt:js.length<n
 .repeat' first|refine ge (kf @hlt @hol) ?_|decide|refine sp ?_ ?_<;>intro _
  refine ae (fun st=>∃ (i:Nat) (v:Int),(i<=n /\ ((v<0 /\ ∀ i',i'<i -> ¬ wM m js i') \/ ∃ j:Nat,v=(j:Int) /\ CX m js j)) /\ st=⟨66,[(1,.op 0 0 0),(4,eI (n:Int)),(5,.osl 1),(6,.osl 2),(7,eI v),(8,eI (i:Int))],[(0,some (.box 32 (aQ m))),(1,some (.row 4 1 (bs.map fun b=>[eB b]))),(2,some (.row 154 2 ((js.map (md m)).map uK)))],3⟩) (fun st=>n - aq st 8) ⟨_,wC,0,-1,⟨Nv _,.inl ⟨by omega,fun i' h=>absurd h (by omega)⟩⟩,rfl⟩ ?_;rintro _ ⟨i,v,⟨hi,hv⟩,rfl⟩;rcases hv with ⟨hv0,hno⟩|⟨j,rfl,hnx⟩
  .by_cases hlt2:i<n
   .have hib:i<bs.length:=by omega
    repeat' first|refine go ?_|simp only [ab,hlt2,hv0,hib]|decide|refine sp ?_ ?_<;>intro _
    refine ae (fun st=>∃ (k:Nat) (f:Bool),(k<=n /\ (f=true ↔ i ∉ js /\ ∀ k',k'<k -> k' ∈ js \/ iG m i k'=false)) /\ st=⟨66,[(1,.op 0 0 0),(4,eI (n:Int)),(5,.osl 1),(6,.osl 2),(7,eI v),(8,eI (i:Int)),(9,eB f),(10,eI (k:Int))],[(0,some (.box 32 (aQ m))),(1,some (.row 4 1 (bs.map fun b=>[eB b]))),(2,some (.row 154 2 ((js.map (md m)).map uK)))],3⟩) (fun st=>n - aq st 10) ⟨_,wC,0,!bs[i],⟨Nv _,by rw [hbd];simp⟩,rfl⟩ ?_;rintro _ ⟨k,f,⟨hk,hF⟩,rfl⟩;by_cases hlt3:k<n
    .have hkb:k<bs.length:=by omega
     have hstep:∀ b:Bool,(b=true ↔ (k ∈ js \/ iG m i k=false)) -> ((f && b)=true ↔ i ∉ js /\ ∀ k',k'<k+1 -> k' ∈ js \/ iG m i k'=false):=fun b hb=>by
      rw [NU,hF,hb];constructor
      .rintro ⟨⟨h1,h2⟩,h3⟩;refine ⟨h1,fun k' h4=>?_⟩;rcases NP k' k with h5|h5
       .exact h2 k' h5
       .obtain rfl:k'=k:=by omega
        exact h3
      .rintro ⟨h1,h2⟩;exact ⟨⟨h1,fun k' h4=>h2 k' (by omega)⟩,h2 k (by omega)⟩
     have hW:=DE m i k hf hp (by omega) (by omega)
     cases f with
     | false=>
      repeat' first|refine go ?_|simp only [ab,hlt3,hkb]|decide|refine sp ?_ ?_<;>intro _
      exact rI wC ⟨k+1,false,⟨by omega,hstep (decide (k ∈ js \/ iG m i k=false)) (by simp)⟩,rfl⟩
     | true=>
      cases hbk:bs[k] with
      | true=>
       have hmem:k ∈ js:=by
        have:=hbd k hkb;rw [hbk] at this;exact of_decide_eq_true this.symm
       repeat' first|refine go ?_|simp only [ab,hlt3,hkb,hbk]|decide|refine sp ?_ ?_<;>intro _
       exact rI wC ⟨k+1,true,⟨by omega,hstep true (by simp [hmem])⟩,rfl⟩
      | false=>
       have hmem:k ∉ js:=by
        have:=hbd k hkb;rw [hbk] at this;exact of_decide_eq_false this.symm
       repeat' first|refine go ?_|simp only [ab,hlt3,hkb,hbk]|decide|refine sp ?_ ?_<;>intro _
       refine aw hW ?_;have hs2:=hstep (!iG m i k) (by simp [hmem]);rw [Oq] at hs2
       repeat' first|refine go ?_|simp only [ab,hkb]|decide|refine sp ?_ ?_<;>intro _
       exact rI wC ⟨k+1,!iG m i k,⟨by omega,hs2⟩,rfl⟩
    .obtain rfl:k=n:=by omega
     have hFr:f=true ↔ wM m js i:=by
      rw [hF];unfold wM;rw [hnS]
     cases f with
     | true=>
      repeat' first|refine go ?_|simp only [ab,hlt3]|decide|refine sp ?_ ?_<;>intro _
      exact rI wC ⟨i+1,(i:Int),⟨by omega,.inr ⟨i,rfl,⟨by omega,hFr.1 rfl,hno⟩⟩⟩,rfl⟩
     | false=>
      repeat' first|refine go ?_|simp only [ab,hlt3]|decide|refine sp ?_ ?_<;>intro _
      refine rI wC ⟨i+1,v,⟨by omega,.inl ⟨hv0,fun i' h=>?_⟩⟩,rfl⟩;rcases NP i' i with h5|h5
      .exact hno i' h5
      .obtain rfl:i'=i:=by omega
       exact fun h6=>by have:=hFr.2 h6;cases this
   .repeat' first|refine ge (kf @hlt2 hv0) ?_|decide|refine sp ?_ ?_<;>intro _
    exact ⟨_,.inr rfl,⟨fun id o h=>(by cases h),trivial,trivial,trivial⟩,aU (by simp [AV.ren,AV.renL])⟩
  .have hjn:j<n:=by have:=hnx.lt;omega
   have hjb:j<bs.length:=(by omega);have hj0:decide ((j:Int)<0)=false:=(by simp);have et:((js ++ [j]).map (md m)).map uK=(js.map (md m)).map uK ++ [uK (md m j)]:=by rw [OB,OB];rfl
   have hset:(bs.map fun b=>[eB b]).set j [eB true]=(bs.set j true).map fun b=>[eB b]:=(by rw [Pw]);have hnew:(bs.set j true).length=n /\ (js ++ [j]).length<=n /\ (∀ i (h:i<(bs.set j true).length),(bs.set j true)[i]=decide (i ∈ js ++ [j])) /\ nP m (js ++ [j]):=⟨by simp [hbs],by simp;omega,tF (n:=n) hbd,wL hgr hnx⟩;by_cases hi2:i<n
   .repeat' first|refine go ?_|simp only [hi2,hj0,ab,hjb,Int.reduceToNat]|decide|refine sp ?_ ?_<;>intro _
    refine bI (IP m j hf (by omega)) (ro) ?_
    repeat' first|refine go ?_|simp only [ab,hjb]|decide|refine sp ?_ ?_<;>intro _
    refine ⟨rfl,by omega,fa (wS [0,1,4] (kf @hset et)) ⟨bs.set j true,js ++ [j],hnew,rfl⟩ (by simp [ur,af.gc];omega)⟩
   .repeat' first|refine go ?_|simp only [hi2,hj0,ab,hjb,Int.reduceToNat]|decide|refine sp ?_ ?_<;>intro _
    refine bI (IP m j hf (by omega)) (ro) ?_
    repeat' first|refine go ?_|simp only [ab,hjb]|decide|refine sp ?_ ?_<;>intro _
    refine ⟨rfl,by omega,fa (wS [0,1,4] (kf @hset et)) ⟨bs.set j true,js ++ [j],hnew,rfl⟩ (by simp [ur,af.gc];omega)⟩
 .repeat' first|refine ge (kf @hlt @hol) ?_|decide|refine sp ?_ ?_<;>intro _
  refine ⟨_,.inl ⟨js,rfl,by omega,hgr⟩,⟨fun id o h=>?_,PV,trivial,trivial⟩,⟨[2],by simp,rfl,⟨PV,⟨_,_,_,rfl⟩,by simp [af.gc]⟩,trivial⟩⟩;simp only [af.gc] at h;split at h
  .rename_i e;cases h;subst e;exact ⟨PV,trivial⟩
  .cases h
end
section
theorem AD (a b:List (Bool × Int)) (ha:a.length<=1000000) (hb:b.length<=1000000):dn Tryz.prog 27 [.sl 2 (a.map uK),.sl 2 (b.map uK)] fun R=>∃ r,R=val (.bool r) /\ (r=true -> a=b):=by
 refine aM ah Tryz.func27 rfl (by decide) Tryz.ntmps27 Tryz.results27 rfl ?_
 repeat' first|refine go ?_|decide|refine sp ?_ ?_<;>intro _
 .exact ca ⟨false,rfl,fun h=>by cases h⟩
 .rename_i hl;have hl:a.length=b.length:=by simp at hl;omega
  refine ae (fun st=>∃ (k:Nat),(k<=a.length /\ ∀ i (h:i<a.length) (h2:i<b.length),i<k -> a[i]=b[i]) /\ st=⟨26,[(0,.sl 2 (a.map uK)),(1,.sl 2 (b.map uK)),(5,eI (k:Int))],[],0⟩) (fun st=>a.length - aq st 5) ⟨_,wC,0,⟨Nv _,fun i h h2 h3=>absurd h3 (by omega)⟩,rfl⟩ ?_;rintro _ ⟨k,⟨hk,hI⟩,rfl⟩;by_cases hlt:k<a.length
  .have hlt2:k<b.length:=by omega
   repeat' first|refine go ?_|simp only [ab,hlt,hlt2]|decide|refine sp ?_ ?_<;>intro _
   refine aA (by kernel_rfl) ?_
   repeat' first|refine go ?_|simp only [ab,hlt,hlt2]|decide|refine sp ?_ ?_<;>intro _
   refine ⟨_,Bl .neq (.inr rfl) a[k] b[k],?_⟩
   repeat' first|refine go ?_|decide|refine sp ?_ ?_<;>intro _
   all_goals first|with_reducible exact ca ⟨false,rfl,fun h=>by cases h⟩|skip
   rename_i hne;refine rI wC ⟨k+1,⟨by omega,fun i h h2 h3=>?_⟩,rfl⟩;rcases NP i k with h5|h5
   .exact hI i h h2 h5
   .obtain rfl:i=k:=by omega
    simp at hne;exact Prod.ext hne.1 hne.2
  .repeat' first|refine go ?_|simp only [ab,hlt]|decide|refine sp ?_ ?_<;>intro _
   exact ca ⟨true,rfl,fun _=>OZ hl fun i h1 h2=>hI i h1 h2 (by omega)⟩
structure Du (m:bb):Prop where
 chk:Nh m
 named:xz m
 writes:nl m.events
 sum:j3 m.events<=4
 consts:(iz m []).length<=6
 order:∃ js:List Nat,m.order=js.map (md m) /\ js.length=BM m /\ nP m js
theorem lV (m:bb) (hf:rL m) (hp:∀ p ∈ m.stages,aB p.2):dn Tryz.prog 7 [.agg (aQ m)] fun R=>∃ b,R=val (.bool b) /\ (b=true -> Du m):=by
 refine aM ah Tryz.func7 rfl (by decide) Tryz.ntmps7 Tryz.results7 rfl ?_;obtain ⟨hg,hm,hst,hev,hat,hus,hro,hso,hor,-⟩:=id hf.sizes;have hpl:(fF m).length<=1073741824:=by simp [fF];omega
 have hpo:∀ x ∈ fF m,aB x:=fun x hx=>by
  obtain ⟨p,hp',rfl⟩:=NC.1 hx;exact hp p hp'
 repeat' first|refine go ?_|decide|refine sp ?_ ?_<;>intro _
 all_goals first|with_reducible exact ca ⟨false,rfl,fun h=>by cases h⟩|skip
 refine gA (DU m hf) fun b hnm=>?_
 repeat' first|refine go ?_|decide|refine sp ?_ ?_<;>intro _
 all_goals first|with_reducible exact ca ⟨false,rfl,fun h=>by cases h⟩|skip
 rename_i hbn;have hbn:b=true:=by simpa using hbn
 have hnm:=hnm hbn;refine Ar (BJ m.events (by omega) hf.events) ?_;rintro _ ⟨n,rfl,hwr⟩;refine ⟨.inr ⟨trivial,trivial⟩,?_⟩;simp only [val,AV.shift,af.shift,N3,Pf]
 repeat' first|refine go ?_|decide|refine sp ?_ ?_<;>intro _
 all_goals first|with_reducible exact ca ⟨false,rfl,fun h=>by cases h⟩|skip
 refine ce (mO m (by omega)) (.inr dT) ?_
 repeat' first|refine go ?_|decide|refine sp ?_ ?_<;>intro _
 refine aw (Ey (fF m) hpl hpo) ?_
 repeat' first|refine go ?_|decide|refine sp ?_ ?_<;>intro _
 all_goals first|with_reducible exact ca ⟨false,rfl,fun h=>by cases h⟩|skip
 have chk:Nh m:=by refine ⟨?_,?_,?_,?_,?_,?_,?_,?_,?_,?_⟩<;>(simp only [NQ,bne_eq_false_iff_eq] at *;omega)
 have hwr2:n=j3 m.events /\ nl m.events:=hwr.resolve_left (by simp only [NQ,bne_eq_false_iff_eq] at *;omega);have hn4:n<=4:=by simp only [NQ,bne_eq_false_iff_eq] at *;omega
 refine bI ((F7 m [] (by simp) hg hm hf.guards hf.miles).fits (args:=[.agg (aQ m),.c (.slice none 0 0)]) ⟨.one (.refl _),.one (.nil 7),trivial⟩) (ro) ?_
 repeat' first|refine go ?_|decide|refine sp ?_ ?_<;>intro _
 all_goals first|with_reducible exact ca ⟨false,rfl,fun h=>by cases h⟩|skip
 rename_i hc6;have hc6:(iz m []).length<=6:=by simp only [NQ] at hc6;omega
 refine Ar (Fl m hf hp) fun R hR=>?_;rcases hR with ⟨js,rfl,hjl,hgr⟩|rfl
 .have e0:((0:Int) == 0)=true:=by decide
  refine ⟨.inr ⟨⟨trivial,trivial,trivial⟩,uT,trivial⟩,?_⟩;simp only [AV.shift,AV.shiftL,af.shift,aE.shift]
  repeat' first|refine ge e0 ?_|decide|refine sp ?_ ?_<;>intro _
  refine gA (AD (js.map (md m)) m.order (by rw [NI,hjl];unfold BM;omega) (by omega)) fun x hx=>?_
  repeat' first|refine go ?_|decide|refine sp ?_ ?_<;>intro _
  exact ca ⟨_,rfl,fun h=>⟨chk,hnm,hwr2.2,by rw [<- hwr2.1];exact hn4,hc6,js,(hx h).symm,hjl,hgr⟩⟩
 .have e0:((10:Int) == 0)=false:=by decide
  refine ⟨.inr ⟨⟨trivial,trivial,trivial⟩,trivial⟩,?_⟩;simp only [AV.shift,AV.shiftL,af.shift,aE.shift]
  repeat' first|refine ge e0 ?_|decide|refine sp ?_ ?_<;>intro _
  exact ca ⟨false,rfl,fun h=>by cases h⟩
end
end
end Go.Proofs.YtiaiihjmmfakdaaGreatDoor
