/-
  Parts of the proof: Ctp31, Ctp32, Ctp33, Ctp34.
-/
import Derived.Test.YtmmoidfcfjklaaaGreatCtq9
import Derived.Test.YtmmoidfcfjklaaaGreatRows
set_option linter.unusedVariables false
set_option linter.unusedSimpArgs false
set_option linter.defProp false
set_option maxRecDepth 100000
set_option maxHeartbeats 16000000
namespace Go.Proofs.YtmmoidfcfjklaaaGreat
open Go.RowKit
section
section
theorem CE {α:Type} [DecidableEq α] (l:List α) (x:α):ch (l ++ [x])=if x ∈ ch l then ch l else ch l ++ [x]:=by
 unfold ch;rw [Wh];rfl
noncomputable def jN (m:bk) (c:List Int) (n:Nd) (e i j:Nat):List Sn:=
 du m c n e ++ (((fA m (bD n) (e:Int)).take i).flatMap (fun u=>gO m c n e u (dq m n e)) ++ ((((fA m (bD n) (e:Int))[i]?.map fun u=>gO m c n e u (dq m n e)).getD []).take j))
theorem Gg (m:bk) (c:List Int) (n:Nd) (e:Nat):jN m c n e 0 0=du m c n e:=by simp [jN]
theorem F2 (m:bk) (c:List Int) (n:Nd) (e:Nat) {i:Nat} (hi:i<(fA m (bD n) (e:Int)).length):jN m c n e i (dq m n e).length=jN m c n e (i+1) 0:=by
 unfold jN;rw [Vk hi,f4 hi,Wy];simp only [VX,VH,Ww,Wl,Wn,VA]
 congr 2
 exact VK (by rw [gO,Vo];exact Os _)
theorem Ht (m:bk) (c:List Int) (n:Nd) (e:Nat):jN m c n e (fA m (bD n) (e:Int)).length 0=du m c n (e+1):=by
 unfold jN du;rw [Vq,Wu,Wy];simp [nr]
theorem Gt (m:bk) (c:List Int) (n:Nd) (e:Nat) {i j:Nat} (hi:i<(fA m (bD n) (e:Int)).length) (hj:j<(dq m n e).length) :
  jN m c n e i (j+1)=jN m c n e i j ++ [⟨(e:Int),(fA m (bD n) (e:Int))[i],qS m c { fw m n e (fA m (bD n) (e:Int))[i] with z:=(dq m n e)[j] } (e:Int)⟩]:=by
 unfold jN;rw [f4 hi];simp only [VX,VH];rw [Vk (by simpa [gO] using hj)];simp [gO]
theorem JX (m:bk) (c:List Int) (n:Nd) (e:Nat) {i j:Nat}:∀ s ∈ jN m c n e i j,s ∈ du m c n (e+1):=by
 intro s hs;unfold du;rw [Wu,Wy,Vp];unfold jN at hs;rcases Vp.1 hs with h|h
 .exact .inl h
 .right;simp only [Ww,Wl,Wn];unfold nr;rcases Vp.1 h with h1|h1
  .obtain ⟨u,hu,h2⟩:=V6.1 h1;exact V6.2 ⟨u,VQ hu,h2⟩
  .have h2:=VQ h1
   cases hw:(fA m (bD n) (e:Int))[i]? with
   | none=>rw [hw] at h2;simp at h2
   | some u=>
    rw [hw] at h2;exact V6.2 ⟨u,p0 hw,h2⟩
theorem K8 {m:bk} {c:List Int} {n:Nd} (hE:gF m c) (hK:ot m n) {e i j:Nat} (he:e<m.events.length):(jN m c n e i j).length<=72014552064:=by
 have h1:=kq hE hK e (by omega);have h2:=hE.ck.chk.events
 have h3:=gU (fun u=>gO m c n e u (dq m n e)) 2000404224 ((fA m (bD n) (e:Int)).take i) fun u _=>by
  rw [gO,Vo];exact (lA hE hK he).2
 have h4:=sK hE (bD n) (e:Int);have h5:((fA m (bD n) (e:Int)).take i).length<=4:=by rw [Vr];omega
 have h6:=VD 2000404224 h5
 have h7:(((((fA m (bD n) (e:Int))[i]?.map fun u=>gO m c n e u (dq m n e)).getD []).take j)).length<=2000404224:=by
  rw [Vr]
  cases hw:(fA m (bD n) (e:Int))[i]? with
  | none=>simp
  | some u=>
   have:=(lA hE hK he).2;simp [gO];omega
 have h8:=VD 8001616896 (show e<=6 by omega);unfold jN;rw [Vi,Vi];omega
theorem Ke (m:bk) (c:List Int) (n:Nd) (hE:gF m c) (hB:ua 20 n):aw Tryz.prog 34 [.agg (aW m),sI c,.agg (jR n)] ⟨.sl 8 ((kk m c n).map uc),[],0⟩:=by
 refine jF 115 ?_;refine bm ag Tryz.func34 rfl (by decide) Tryz.ntmps34 Tryz.results34 rfl ?_;have hf:=hE.fit;have hck:=hE.ck;obtain ⟨hgl,hml,hsl,hel,hal,hul,hrl,hsol,hol,hil⟩:=id hf.sizes;have hcl:=hB.z.cl;have hga:=hB.z.ga;have hdl:=hB.did;have hcn:=hB.cnt;have hc9:=hE.clen
 have hm:∀ e ∈ m.events,e.times<=10 /\ e.sets.length<=10:=fun x hx=>by
  obtain ⟨i,hi,rfl⟩:=VB hx;have h1:=(hck.writes.each i hi).2.1;have h2:=oD hck hi;exact ⟨by omega,by omega⟩
 obtain ⟨t,ht,hC⟩:=lM (xf m c n hel hm (by omega) (by omega) (by omega) (by omega) hE.cok hB.z.at_ (by omega) (by omega) hB.opn hB.don hB.dok);have hSt:=vo n (by omega) (by omega)
 cases t with
 | false=>
  have hn:kk m c n=[]:=Vh fun h=>by have:=ht.2 h;cases this
  rw [hn]
  repeat' first|refine gq ?_|decide|refine sp ?_ ?_<;>intro _|refine cA hC ?_|fail
  all_goals exact cI (jv rfl)
 | true=>
  have hP:=ht.1 rfl;have hK:=J8 hE hB.z.at_ hP;have hn:kk m c n=ch (du m c n m.events.length) ++ (if ux m (bD n)=true then [] else [⟨-1,-1,n⟩]):=Vn hP;rw [hn];have hos:aI (bD n).opn:=hB.opn;have hds:aI (bD n).don:=hB.don;have hdis:∀ x ∈ (bD n).did,aI x:=hB.dok;have hL:=sD m n.cnt hel hm (by omega);have hle:=JP hck n.cnt;have hA:=QI m (bD n) (by omega) (by omega) (by omega) (by omega) hos hds hE.rol hdis;obtain ⟨s,hs⟩:∃ s,s=bD n:=⟨_,rfl⟩
  repeat' first|refine gq ?_|decide|refine sp ?_ ?_<;>intro _|refine cA hC ?_|refine cA hSt ?_|fail
  refine af (fun st=>∃ e:Nat,e<=m.events.length /\ st=⟨102,[(1,sI c),(3,.op 0 0 0),(5,.op 1 0 0),(7,.osl 3),(8,.op 2 0 0),(9,eI (e:Int))],[(0,some (.box 32 (aW m))),(1,some (.box 93 (jR n))),(2,some (.box 132 (gE (bD n)))),(3,some (.row 115 8 ((ch (du m c n e)).map uc)))],4⟩) (fun st=>m.events.length - ax st 9) ⟨_,((bA 7 115 8 (by simp only [jn,aj.get,bh,aj.put,↓reduceIte,reduceCtorEq,Nat.reduceLT,Nat.reduceEqDiff,Nat.reduceAdd,Nat.reduceLeDiff,eq_self,implies_true,du,Xe,Wl,ch,Wr,VP])).trans (wS [0,1,2,3] (kf @du.eq_1 (kf @Xe (kf @Wl (kf @ch.eq_1 @Wr)))))),0,Vg _,rfl⟩ ?_;rintro _ ⟨e,he,rfl⟩;by_cases hlt:e<m.events.length
  .obtain ⟨x,hx⟩:∃ x,x=m.events[e]:=⟨_,rfl⟩;have hrx:(m.events.map MU)[e]?.getD []=MU x:=by rw [hx];simp [hlt]
   have hse:qx m e=x.sets:=by rw [hx];exact rV hlt
   have hsl4:=oD hck hlt;rw [<- hx] at hsl4;have hW:=E7 n.z x.sets (fk m n.cnt m.events.length) hK.z (by omega) (by rw [<- hse];exact J4 hck hlt) ⟨by omega,hle.2⟩;have hze:dq m n e=t8 n.z x.sets (fk m n.cnt m.events.length) x.sets.length:=(by rw [dq,hse]);rw [<- hze] at hW;obtain ⟨hzB,hzl⟩:=lA hE hK hlt;have hWho:=KE m (bD n) (e:Int) (by omega) (by omega) (by omega) hos hds hE.rol hdis;have hWhoT:aw Tryz.prog 75 [.agg (aW m),.agg (gE (bD n)),eI (e:Int)] ⟨sI (fA m (bD n) (e:Int)),[],0⟩:=aw.still [0] hWho (by simp [cM.frzs,cM.frz,iZ,ae.gc,AV.frz]) (by simp [AV.lt]);have hwl:=sK hE (bD n) (e:Int)
   have hwm:∀ u ∈ fA m (bD n) (e:Int),0<=u /\ u<31:=fun u hu=>by
    have:=mw hu;omega
   have hz0:=Gg m c n e;have hall:=Ht m c n e
   repeat' first|refine ge (kf @hrx @hlt) ?_|decide|refine sp ?_ ?_<;>intro _
   refine ap [] [0,1,2,3,4,5,6,7,8,9,10] (.exec 11 (.exec 12 (.exec 13 .done))) (by kernel_rfl) (by simp [ae.gc]) ?_
   repeat' first|refine gf (kf @hrx @hlt) ?_|decide|refine sp ?_ ?_<;>intro _|refine cA hL ?_|refine cA hW ?_|refine cA hWhoT ?_|fail
   refine af (fun st=>∃ i:Nat,i<=(fA m (bD n) (e:Int)).length /\ st=⟨102,[(1,sI c),(3,.op 0 0 0),(5,.op 1 0 0),(7,.osl 3),(8,.op 2 0 0),(9,eI (e:Int)),(10,.sl 2 ((dq m n e).map cu)),(11,sI (fA m (bD n) (e:Int))),(12,eI (i:Int))],[(0,some (.box 32 (aW m))),(1,some (.box 93 (jR n))),(2,some (.box 132 (gE (bD n)))),(3,some (.row 115 8 ((ch (jN m c n e i 0)).map uc)))],4⟩) (fun st=>(fA m (bD n) (e:Int)).length - ax st 12) ⟨_,(wE hz0),0,Vg _,rfl⟩ ?_;rintro _ ⟨i,hi,rfl⟩;by_cases hli:i<(fA m (bD n) (e:Int)).length
   .have hsuc:=fun j (hj:j<(dq m n e).length)=>Gt m c n e hli hj;have hnx:=F2 m c n e hli;obtain ⟨W,hWe⟩:∃ W,W=fA m (bD n) (e:Int):=⟨_,rfl⟩;obtain ⟨u,hu⟩:∃ u,u=(fA m (bD n) (e:Int))[i]:=⟨_,rfl⟩;have hru:((fA m (bD n) (e:Int)).map fun n=>[eI n])[i]?.getD []=[eI u]:=by rw [hu];simp [hli]
    have huo:=hwm u (hu ▸ Vf hli);have hk:=hK.each e hlt;have hTk:=N2 m n e u hlt (by have:=hK.did;omega) (by have:=hK.cnt;omega) (by omega) (by omega) (dl hk.1) ⟨by omega,by omega⟩ huo;have hTB:=fun z (hz:mU 20 z)=>Ik hB hK e u z hz;simp only [<- hu] at hsuc;obtain ⟨T,hTe⟩:∃ T,T=fw m n e u:=⟨_,rfl⟩;rw [<- hTe] at hTk hTB hsuc;have hTz:T.opn=n.opn /\ T.don=n.don:=by rw [hTe];exact ⟨rfl,rfl⟩
    repeat' first|refine ge (kf @hru @hli) ?_|decide|refine sp ?_ ?_<;>intro _
    refine ap [] [0,1,2,3,4,5,6] (.two 7 (.exec 8 (.exec 9 .done)) 8 (.exec 7 (.exec 9 .done))) (by kernel_rfl) (by simp [ae.gc]) ?_
    repeat' first|refine gf (kf @hru @hli) ?_|decide|refine sp ?_ ?_<;>intro _|refine cA hTk ?_|(with_reducible apply And.intro)
    all_goals
     refine af (fun st=>∃ (j:Nat) (z:Zn),j<=(dq m n e).length /\ st=⟨102,[(1,sI c),(3,.op 0 0 0),(5,.op 1 0 0),(7,.osl 3),(8,.op 2 0 0),(9,eI (e:Int)),(10,.sl 2 ((dq m n e).map cu)),(11,sI (fA m (bD n) (e:Int))),(12,eI (i:Int)),(13,.op 4 0 0),(14,eI (j:Int))],[(0,some (.box 32 (aW m))),(1,some (.box 93 (jR n))),(2,some (.box 132 (gE (bD n)))),(3,some (.row 115 8 ((ch (jN m c n e i j)).map uc))),(4,some (.box 93 (jR { T with z:=z })))],5⟩) (fun st=>(dq m n e).length - ax st 14) ⟨_,wC,0,T.z,Vg _,rfl⟩ ?_;rintro _ ⟨j,z0,hj,rfl⟩;by_cases hlj:j<(dq m n e).length
     .obtain ⟨z,hz⟩:∃ z,z=(dq m n e)[j]:=⟨_,rfl⟩;have hrz:((dq m n e).map cu)[j]?.getD []=cu z:=by rw [hz];simp [hlj]
      have hzB2:=hzB z (hz ▸ Vf hlj);have hs1:=hsuc j hlj;rw [<- hz] at hs1;have hNB:=hTB z hzB2;have hPs:=Iy m c { T with z:=z } (e:Int) hf hE.stg (by omega) (N:=20) (by omega) hNB (by rw [show ({ T with z:=z }:Nd).opn=n.opn from hTz.1];exact hK.opn) (by rw [show ({ T with z:=z }:Nd).don=n.don from hTz.2];exact hK.don);have hal:=K8 (c:=c) (i:=i) (j:=j) hE hK hlt;have hul:=mn (jN m c n e i j)
      have hsub:∀ y ∈ ch (jN m c n e i j),ua 20 y.nd:=fun y hy=>by
       rw [mm] at hy;exact AG hE hB hK (by omega) y (JX m c n e y hy)
      have hus:=CE (jN m c n e i j) ⟨(e:Int),u,qS m c { T with z:=z } (e:Int)⟩;rw [<- hs1] at hus;obtain ⟨P,hPe⟩:∃ P,P=qS m c { T with z:=z } (e:Int):=⟨_,rfl⟩;rw [<- hPe] at hPs hus;obtain ⟨A,hA2⟩:∃ A,A=ch (jN m c n e i j):=⟨_,rfl⟩;rw [<- hA2] at hul hsub hus ⊢;have hH:=Mi A ⟨(e:Int),u,P⟩ (by omega) (N:=20) (by omega) hsub;by_cases hmem:(⟨(e:Int),u,P⟩:Sn) ∈ A
      .rw [Vn hmem] at hus;rw [VC hmem] at hH
       repeat' first|refine ge (kf @hlj @hrz) ?_|decide|refine sp ?_ ?_<;>intro _
       refine ap [] [0,1,2,3,4,5,6,7,8] (.two 9 (.take 10 (.exec 11 (.exec 12 .done))) 11 (.exec 9 (.take 10 (.exec 12 .done)))) (by kernel_rfl) (by simp [ae.gc]) ?_
       repeat' first|refine gf (kf @hru (kf @hli (kf @hlj @hrz))) ?_|decide|refine sp ?_ ?_<;>intro _|refine cA hPs ?_|refine cA hH ?_|(with_reducible apply And.intro)
       all_goals exact rI (wE @hus) ⟨j+1,z,by omega,rfl⟩
      .rw [Vh hmem] at hus;rw [Vu hmem] at hH;have et:(ch (jN m c n e i (j+1))).map uc=A.map uc ++ [uc ⟨(e:Int),u,P⟩]:=by rw [hus];simp
       repeat' first|refine ge (kf @hlj @hrz) ?_|decide|refine sp ?_ ?_<;>intro _
       refine ap [] [0,1,2,3,4,5,6,7,8] (.two 9 (.take 10 (.exec 11 (.exec 12 .done))) 11 (.exec 9 (.take 10 (.exec 12 .done)))) (by kernel_rfl) (by simp [ae.gc]) ?_
       repeat' first|refine gf (kf @hru (kf @hli (kf @hlj @hrz))) ?_|decide|refine sp ?_ ?_<;>intro _|refine cA hPs ?_|refine cA hH ?_|(with_reducible apply And.intro)
       all_goals first
        | rfl
        | omega
        | exact rI (wS [0,1,2,7,4] (kf et hA2)) ⟨j+1,z,by omega,rfl⟩
     .obtain rfl:j=(dq m n e).length:=by omega
      rw [hnx]
      repeat' first|refine gf @hlj ?_|decide|refine sp ?_ ?_<;>intro _
      all_goals exact rI wC ⟨i+1,by omega,rfl⟩
   .obtain rfl:i=(fA m (bD n) (e:Int)).length:=by omega
    repeat' first|refine gf @hli ?_|decide|refine sp ?_ ?_<;>intro _
    all_goals exact rI (wE @hall) ⟨e+1,by omega,rfl⟩
  .obtain rfl:e=m.events.length:=by omega
   have hUl:=mn (du m c n m.events.length);have hNl:=kq hE hK m.events.length (Os _);have hev:=hck.chk.events;have hNl2:=VD 8001616896 hev;obtain ⟨U,hU⟩:∃ U,U=ch (du m c n m.events.length):=⟨_,rfl⟩;rw [<- hU] at hUl ⊢
   cases hb:ux m (bD n) with
   | true=>
    rw [hb] at hA;rw [Vn rfl,Wn]
    repeat' first|refine gf @hlt ?_|decide|refine sp ?_ ?_<;>intro _|refine cA hA ?_|fail
    all_goals exact yf rfl kG
   | false=>
    rw [hb] at hA;rw [Vh (by simp)];have et:(U ++ [(⟨-1,-1,n⟩:Sn)]).map uc=U.map uc ++ [uc ⟨-1,-1,n⟩]:=(by simp);rw [et]
    repeat' first|refine gf @hlt ?_|decide|refine sp ?_ ?_<;>intro _|refine cA hA ?_|(with_reducible apply And.intro)
    all_goals first
     | rfl
     | omega
     | exact yf rfl kG
end
section
theorem JZ {α:Type} [DecidableEq α] {x:α}:∀ {l:List α} {k:Nat} (hk:k<l.length),l[k]=x -> x ∉ l.take k -> l.idxOf x=k
 | y :: l,0,_,h,_=>by
  have:y=x:=h;rw [this,List.idxOf_cons_self]
 | y :: l,k+1,hk,h,hn=>by
  have h1:x ≠ y /\ x ∉ l.take k:=by simpa using hn
  have hb:(y == x)=false:=VN.2 (Ne.symm h1.1);rw [List.idxOf_cons,hb,cond_false,JZ (by simpa using hk) (by simpa using h) h1.2]
 | [],k,hk,_,_=>absurd hk (by simp)
def vQ (l:List Nd) (n:Nd):Int:=if n ∈ l then (l.idxOf n:Int) else -1
theorem Hq (l:List Nd) (n:Nd) (hll:l.length<=2700000000000) {N:Nat} (hN:N<=1000000) (hl:∀ y ∈ l,ua N y):aw Tryz.prog 35 [.sl 6 (l.map jR),.agg (jR n)] (val (.int .i64 (vQ l n))):=by
 refine aa ag Tryz.func35 rfl (by decide) Tryz.ntmps35 Tryz.results35 rfl (aL _) ?_
 repeat' first|refine go ?_|decide|refine sp ?_ ?_<;>intro _
 refine af (fun st=>∃ k:Nat,k<=l.length /\ n ∉ l.take k /\ st=⟨19,[(0,.sl 6 (l.map jR)),(3,.op 0 0 0),(5,eI (k:Int))],[(0,some (.box 93 (jR n)))],1⟩) (fun st=>l.length - ax st 5) ⟨_,wC,0,Vg _,by simp,rfl⟩ ?_;rintro _ ⟨k,hk,hI,rfl⟩;by_cases hlt:k<l.length
 .obtain ⟨y,hy⟩:∃ y,y=l[k]:=⟨_,rfl⟩;have hrow:(l.map jR)[k]?.getD []=jR y:=by rw [hy];simp [hlt]
  have hB:=hl y (hy ▸ Vf hlt);have b1:=hB.z.cl;have b2:=hB.z.ga;have b3:=hB.did;have b4:=hB.cnt;have hS:=u6 y n (by omega) (by omega) (by omega) (by omega);have hm:n ∈ l.take (k+1) ↔ n ∈ l.take k \/ n=y:=by rw [Vk hlt,Vp,VF,hy]
  cases h7:decide (y=n) with
  | false=>
   rw [h7] at hS;have hne:¬ y=n:=fun e=>by rw [e] at h7;simp at h7
   repeat' first|refine gf (kf @hrow @hlt) ?_|decide|refine sp ?_ ?_<;>intro _|refine cA hS ?_|fail
   all_goals exact rI wC ⟨k+1,by omega,fun h=>(hm.1 h).elim hI fun e=>hne e.symm,rfl⟩
  | true=>
   rw [h7] at hS;have he:y=n:=(by simpa using h7);have hmem:n ∈ l:=by rw [<- he,hy];exact Vf hlt
   have hix:vQ l n=(k:Int):=by
    rw [vQ,Vn hmem,JZ hlt (by rw [<- hy];exact he) hI]
   rw [hix]
   repeat' first|refine gf (kf @hrow @hlt) ?_|decide|refine sp ?_ ?_<;>intro _|refine cA hS ?_|fail
 .obtain rfl:k=l.length:=by omega
  rw [Vq] at hI;have hix:vQ l n = -1:=Vh hI;rw [hix]
  repeat' first|refine gf @hlt ?_|decide|refine sp ?_ ?_<;>intro _
def jo (N:List Nd) (l:List Sn) (r:List pf):Prop:=r.length=l.length /\ ∀ j (h:j<l.length) (h2:j<r.length),r[j].ev=l[j].ev /\ r[j].us=l[j].us /\ 0<=r[j].dst /\ N[r[j].dst.toNat]? = some l[j].nd
theorem jo.mono {N N':List Nd} {l:List Sn} {r:List pf} (h:jo N l r) (hp:N <+: N'):jo N' l r:=by
 obtain ⟨t,rfl⟩:=hp;refine ⟨h.1,fun j h1 h2=>?_⟩;obtain ⟨k1,k2,k3,k4⟩:=h.2 j h1 h2;exact ⟨k1,k2,k3,by rw [VM (Vd.1 k4).1];exact k4⟩
theorem jo.snoc {N:List Nd} {l:List Sn} {r:List pf} {k:Nat} (hk:k<l.length) (h:jo N (l.take k) r) {e:pf} (he:e.ev=l[k].ev /\ e.us=l[k].us /\ 0<=e.dst /\ N[e.dst.toNat]? = some l[k].nd):jo N (l.take (k+1)) (r ++ [e]):=by
 have hl:r.length=k:=by
  have:=h.1;rw [Vr] at this;omega
 refine ⟨by rw [Vi,Vy,Vr];omega,fun j h1 h2=>?_⟩;by_cases e1:j=k
 .subst e1
  have:(r ++ [e])[j]=e:=by
   rw [Xl (by omega)];simp [hl]
  rw [this,List.getElem_take];exact he
 .have h3:j<k:=by
   rw [Vr] at h1;omega
  have h4:=h.2 j (by rw [Vr];omega) (by omega);rw [W4 (by omega),List.getElem_take];rw [List.getElem_take] at h4;exact h4
structure t9 (m:bk) (c:List Int) (N:List Nd) (E:List (List pf)) (k:Nat):Prop where
 first:N[0]? = some (qw m c (eD m))
 len:E.length=k
 le:k<=N.length
 nd:N.Nodup
 bnd:∀ n ∈ N,ua 20 n
 rows:∀ i (h:i<N.length) (h2:i<E.length),jo N (kk m c N[i]) E[i]
structure OA (m:bk) (c:List Int) (N0 N:List Nd) (L:List Sn) (r:List pf) (i:Nat):Prop where
 pre:N0 <+: N
 len:N.length<=N0.length+i
 nd:N.Nodup
 bnd:∀ n ∈ N,ua 20 n
 edg:jo N (L.take i) r
def HM (m:bk) (c:List Int) (most:Nat) (R:cM):Prop:=R=⟨.tup [.agg [.c (.slice none 0 0),.c (.slice none 0 0)],eB false],[],0⟩ \/ ∃ N E,t9 m c N E N.length /\ N.length<=most /\ R=⟨.tup [.agg [.sl 6 (N.map jR),.sl 1 (kd E)],eB true],[],0⟩
def Uz (m:bk) (c:List Int) (most:Nat) (R:cM):Prop:=R=⟨.tup [.agg [.c (.slice none 0 0),.c (.slice none 0 0)],eB false],[],0⟩ \/ ∃ N E,t9 m c N E N.length /\ N.length<=most /\ R=⟨.tup [.agg [.osl 0,.osl 1],eB true],[(0,some (.row 93 6 (N.map jR))),(1,some (.row 64 1 (kd E)))],2⟩
theorem Th {P:Program} {f:FuncId} {args:List AV} {m:bk} {c:List Int} {most:Nat} (h:dt P f args (Uz m c most)):dt P f args (HM m c most):=
 (((h.frz 0).frz 1).drop).mono fun R hR=>by
  obtain ⟨R1,⟨R2,⟨R3,h3,rfl⟩,rfl⟩,h4⟩:=hR;rcases h3 with rfl|⟨N,E,h5,h6,rfl⟩
  .rcases h4 with ⟨_,rfl⟩ | ⟨h4,_⟩
   .left;simp [cM.frz,ae.get]
   .exact absurd (by simp [cM.frz,ae.get,AV.lt,AV.ltL]) h4
  .rcases h4 with ⟨_,rfl⟩ | ⟨h4,_⟩
   .right;exact ⟨N,E,h5,h6,by simp [cM.frz,ae.gc,AV.frz,AV.frzL,b9,aE.frz]⟩
   .exact absurd (by simp [cM.frz,ae.gc,AV.frz,AV.frzL,b9,aE.frz,AV.lt,AV.ltL]) h4
theorem EU {m:bk} {c:List Int} {n:Nd} (hE:gF m c) (hB:ua 20 n):(kk m c n).length<=48009701377:=by
 unfold kk;split
 .rename_i hP;have hK:=J8 hE hB.z.at_ hP;have h1:=mn (du m c n m.events.length);have h2:=kq hE hK m.events.length (Os _);have h3:=VD 8001616896 hE.ck.chk.events;rw [Vi];split
  .simp only [Wt];omega
  .simp only [Vy];omega
 .exact Vg _
theorem FY (vals c:List Int) (h:vals.length+c.length<=20):mU 20 (o6 vals c 0) /\ ∀ r,mU 20 (o6 vals c r):=by
 have key:∀ r,mU 20 (o6 vals c r):=fun r=>by
  have hl:=fy (vals ++ c);rw [Vi] at hl;refine ⟨by simp [o6,Fo,iV];omega,by simp [o6,iC,iV];omega,fun x hx=>?_⟩;obtain ⟨n,_,rfl⟩:=Vt.1 hx;exact pK _ _ _
 exact ⟨key 0,key⟩
theorem OQ {m:bk} {c:List Int} (hE:gF m c):ua 20 (qw m c (eD m)):=by
 obtain ⟨e1,e2,e3⟩:=z9 m;have h1:=hE.ck.chk;have h2:=hE.clen;have h3:=h1.attrs;have h4:=h1.inits;have h5:=h1.events;have h31:=sA m (-1) (m.order.take m.order.length) (kx m) (by simp [kx,cN])
 have hd:(eD m).did=List.replicate m.events.length 0:=by
  have h:=pV m (-1) (m.order.take m.order.length) (kx m);unfold eD mb;rw [h.2.1];rfl
 refine ⟨(FY (eD m).vals c (by rw [e1];omega)).2 _,by show (eD m).did.length<=10;omega,by show (eD m).cnt.length<=10;omega,dl h31.1,dl h31.2,fun x hx=>?_⟩;have hx2:x ∈ (eD m).did:=hx;rw [hd] at hx2;rw [(List.mem_replicate.1 hx2).2];simp [aI]
theorem FQ (m:bk) (c:List Int) (most:Nat) (hE:gF m c) (hi:∀ x ∈ m.inits,aI x) (hmost:most<=1000):dt Tryz.prog 19 [.agg (aW m),sI c,eI (most:Int)] (HM m c most):=by
 refine Th ?_;refine bm ag Tryz.func19 rfl (by decide) Tryz.ntmps19 Tryz.results19 rfl ?_;have hc9:=hE.clen;obtain ⟨hgl,hml,hsl,hel,hal,hul,hrl,hsol,hol,hil⟩:=id hE.fit.sizes
 have hm:∀ e ∈ m.events,e.times<=10 /\ e.sets.length<=10:=fun x hx=>by
  obtain ⟨i,hi,rfl⟩:=VB hx;have h1:=(hE.ck.writes.each i hi).2.1;have h2:=oD hE.ck hi;exact ⟨by omega,by omega⟩
 have hBg:=wZ m c hE.fit hE.stg hi hm (by omega) hE.cok;have hBB:=OQ hE;obtain ⟨n0,hn0⟩:∃ n0,n0=qw m c (eD m):=⟨_,rfl⟩;have hX0:t9 m c [n0] [] 0:=⟨by rw [hn0];rfl,rfl,Vg _,by simp,fun n hn=>by simp only [VF] at hn;rw [hn,hn0];exact hBB,fun i h h2=>absurd h2 (by simp)⟩;have e0:([n0]:List Nd).map jR=[jR n0]:=rfl;rw [<- hn0] at hBg
 repeat' first|refine gq ?_|decide|refine sp ?_ ?_<;>intro _|refine cA hBg ?_|fail
 refine ⟨rfl,?_⟩
 refine af (fun st=>∃ (k:Nat) (N:List Nd) (E:List (List pf)),(t9 m c N E k /\ (N.length<=most \/ (k=0 /\ N.length=1))) /\ st=⟨96,[(1,sI c),(2,eI (most:Int)),(3,.op 0 0 0),(6,.op 1 0 0),(8,.op 2 0 0),(9,eI (k:Int))],[(0,some (.box 32 (aW m))),(1,some (.box 40 [.c (.slice none 0 0),.c (.slice none 0 0)])),(2,some (.box 40 [.osl 3,.osl 4])),(3,some (.row 93 6 (N.map jR))),(4,some (.row 64 1 (kd E)))],5⟩) (fun st=>most+2 - ax st 9)
  ⟨_,((ct 3 1 64 1 (t:=40) (cells:=[.osl 2,.c (.slice none 0 0)]) (by simp [ae.gc]) rfl).trans (wS [0,1,3,2,4] (kf @WC (kf @W3 (kf e0 @kd.eq_1))))),0,[n0],[],⟨hX0,.inr ⟨rfl,rfl⟩⟩,rfl⟩ ?_
 rintro _ ⟨k,N,E,⟨hX,hlen⟩,rfl⟩;have hNl:N.length<=1000:=by omega
 by_cases hlt:k<N.length
 .obtain ⟨n,hn⟩:∃ n,n=N[k]:=⟨_,rfl⟩;have hnB:=hX.bnd n (hn ▸ Vf hlt);have hrn:(N.map jR)[k]?.getD []=jR n:=by rw [hn];simp [hlt]
  have hNx:=Ke m c n hE hnB;have hLl:=EU hE hnB;have hLB:=NC hE hnB;obtain ⟨L,hL⟩:∃ L,L=kk m c n:=⟨_,rfl⟩;rw [<- hL] at hNx hLl hLB;have hkm:k<=most+1:=by omega
  repeat' first|refine ge (kf @hlt @hrn) ?_|decide|refine sp ?_ ?_<;>intro _
  refine ap [] [0,1,2,3,4,5,6] (.exec 7 (.exec 8 .done)) (by kernel_rfl) (by simp [ae.gc]) ?_
  repeat' first|refine gf (kf @hlt @hrn) ?_|decide|refine sp ?_ ?_<;>intro _|refine cA hNx ?_|fail
  have hXi0:OA m c N N L [] 0:=⟨XK,Os _,hX.nd,hX.bnd,⟨rfl,fun j h _=>absurd h (by simp)⟩⟩
  refine af (fun st=>∃ (i:Nat) (M:List Nd) (r:List pf),(i<=L.length /\ OA m c N M L r i) /\ st=⟨96,[(1,sI c),(2,eI (most:Int)),(3,.op 0 0 0),(6,.op 1 0 0),(8,.op 2 0 0),(9,eI (k:Int)),(10,.sl 8 (L.map uc)),(11,.osl 5),(12,eI (i:Int))],[(0,some (.box 32 (aW m))),(1,some (.box 40 [.c (.slice none 0 0),.c (.slice none 0 0)])),(2,some (.box 40 [.osl 3,.osl 4])),(3,some (.row 93 6 (M.map jR))),(4,some (.row 64 1 (kd E))),(5,some (.row 63 3 (r.map M3)))],6⟩) (fun st=>L.length - ax st 12)
   ⟨_,((bA 11 63 3 (by simp only [jn,aj.get,bh,aj.put,↓reduceIte,reduceCtorEq,Nat.reduceLT,Nat.reduceEqDiff,Nat.reduceAdd,Nat.reduceLeDiff,eq_self,implies_true,VP])).trans (wS [0,1,2,3,4,5] trivial)),0,N,[],⟨Vg _,hXi0⟩,rfl⟩ ?_
  rintro _ ⟨i,M,r,⟨hil2,hXi⟩,rfl⟩;have hMl:=hXi.len
  have hrl2:r.length<=48009701377:=by
   have:=hXi.edg.1;rw [Vr] at this;omega
  by_cases hli:i<L.length
  .obtain ⟨y,hy⟩:∃ y,y=L[i]:=⟨_,rfl⟩;have hry:(L.map uc)[i]?.getD []=uc y:=by rw [hy];simp [hli]
   have q2:List.drop 2 (uc y)=jR y.nd:=rfl;have hyB:=hLB y (hy ▸ Vf hli);have hF:=Hq M y.nd (by omega) (N:=20) (by omega) hXi.bnd;by_cases hmem:y.nd ∈ M
   .have hfi:vQ M y.nd=(M.idxOf y.nd:Int):=Vn hmem;have hge:decide ((M.idxOf y.nd:Int)<0)=false:=Vu (by omega);have hidx:=Xi hmem;have hget:M[M.idxOf y.nd]? = some y.nd:=(by rw [f4 hidx,List.getElem_idxOf]);rw [hfi] at hF;obtain ⟨q,hq⟩:∃ q,q=M.idxOf y.nd:=⟨_,rfl⟩;rw [<- hq] at hF hge hget;have hXn:OA m c N M L (r ++ [⟨y.ev,y.us,(q:Int)⟩]) (i+1):=⟨hXi.pre,by omega,hXi.nd,hXi.bnd,hXi.edg.snoc hli (by rw [<- hy];exact ⟨rfl,rfl,by simp,by simpa using hget⟩)⟩;have et:(r ++ [(⟨y.ev,y.us,(q:Int)⟩:pf)]).map M3=r.map M3 ++ [[eI y.ev,eI y.us,eI (q:Int)]]:=(by simp)
    repeat' first|refine ge (kf @hli @hry) ?_|decide|refine sp ?_ ?_<;>intro _
    refine ap [] [0,1,2,3,4,5,6] (.exec 7 (.exec 8 .done)) (by kernel_rfl) (by simp [ae.gc]) ?_
    repeat' first|refine ge (kf @hli (kf @hry q2)) ?_|decide|refine sp ?_ ?_<;>intro _
    refine ay hF ?_
    repeat' first|refine ge (kf @hli (kf @hry (kf q2 @hge))) ?_|decide|refine sp ?_ ?_<;>intro _
    refine ap [5] [0,1,2,3,4,5,6,7,8,9,10,11,12] (.exec 13 (.exec 14 (.exec 15 .done))) (by kernel_rfl) (by simp [ae.gc]) ?_
    repeat' first|refine gf (kf @hli (kf @hry (kf q2 @hge))) ?_|decide|refine sp ?_ ?_<;>intro _|(with_reducible apply And.intro)
    all_goals first
     | rfl
     | omega
     | exact rI (wS [0,1,2,3,4,7] et) ⟨i+1,M,_,⟨by omega,hXn⟩,rfl⟩
   .have hfi:vQ M y.nd = -1:=Vh hmem;have hge:decide ((-1:Int)<0)=true:=(by decide);rw [hfi] at hF
    have hXn:OA m c N (M ++ [y.nd]) L (r ++ [⟨y.ev,y.us,(M.length:Int)⟩]) (i+1):=by
     refine ⟨hXi.pre.trans (XF _ _),by rw [Vi,Vy];omega,?_,fun n hn=>?_,(hXi.edg.mono (XF _ _)).snoc hli (by rw [<- hy];exact ⟨rfl,rfl,by simp,by simp⟩)⟩
     .rw [Xp];refine ⟨hXi.nd,by simp,fun a ha b hb=>?_⟩;simp only [VF] at hb;rw [hb];exact fun e=>hmem (e ▸ ha)
     .rcases Vp.1 hn with h1 | h1
      .exact hXi.bnd n h1
      .simp only [VF] at h1;rw [h1];exact hyB
    have et:(r ++ [(⟨y.ev,y.us,(M.length:Int)⟩:pf)]).map M3=r.map M3 ++ [[eI y.ev,eI y.us,eI (M.length:Int)]]:=(by simp);have et2:(M ++ [y.nd]).map jR=M.map jR ++ [jR y.nd]:=(by simp)
    repeat' first|refine ge (kf @hli @hry) ?_|decide|refine sp ?_ ?_<;>intro _
    refine ap [] [0,1,2,3,4,5,6] (.exec 7 (.exec 8 .done)) (by kernel_rfl) (by simp [ae.gc]) ?_
    repeat' first|refine ge (kf @hli (kf @hry q2)) ?_|decide|refine sp ?_ ?_<;>intro _
    refine ay hF ?_
    repeat' first|refine ge (kf @hli (kf @hry (kf q2 @hge))) ?_|decide|refine sp ?_ ?_<;>intro _
    refine ap [2,3] [0,2,3,4,5,6] (.two 1 (.exec 7 (.exec 8 (.take 9 (.exec 10 .done)))) 7 (.exec 1 (.exec 8 (.take 9 (.exec 10 .done))))) (by kernel_rfl) (by simp [ae.gc]) ?_
    repeat' first|refine ge (kf @hli (kf @hry (kf q2 @hge))) ?_|decide|refine sp ?_ ?_<;>intro _
    repeat' (with_reducible apply And.intro)
    all_goals first
     | rfl
     | omega
     | skip
    all_goals refine ap [5] [0,1,2,3,4,5,6,7,8,9,10,11,12] (.exec 13 (.exec 14 (.exec 15 .done))) (by kernel_rfl) (by simp [ae.gc]) ?_
    all_goals
     repeat' first|refine gf (kf @hli (kf @hry (kf q2 @hge))) ?_|decide|refine sp ?_ ?_<;>intro _|(with_reducible apply And.intro)
     all_goals first
      | rfl
      | omega
      | exact rI (wS [0,1,2,7,4,9] (kf et et2)) ⟨i+1,M ++ [y.nd],_,⟨by omega,hXn⟩,rfl⟩
  .obtain rfl:i=L.length:=by omega
   have hMl2:M.length<=50000000000:=(by omega);by_cases hmo:most<M.length
   .have hmd:decide ((most:Int)<(M.length:Int))=true:=VC (by omega)
    repeat' first|refine gf (kf @hli @hmo) ?_|decide|refine sp ?_ ?_<;>intro _
    all_goals exact ⟨_,.inl rfl,⟨fun id o h=>(by cases h),by simp [AV.lt,AV.ltL]⟩,aX (by simp [AV.ren,AV.renL])⟩
   .have hXe:t9 m c M (E ++ [r]) (k+1):=by
     obtain ⟨t,ht⟩:=hXi.pre;have hMle:N.length<=M.length:=by rw [<- ht,Vi];omega
     refine ⟨?_,by rw [Vi,Vy,hX.len],by omega,hXi.nd,hXi.bnd,fun j h h2=>?_⟩
     .rw [<- ht,VM (by omega)];exact hX.first
     .have hjl:j<k+1:=by rw [Vi,Vy,hX.len] at h2;exact h2
      have hge:M[j]=N[j]'(by omega):=by
       simp only [<- ht];rw [W4 (by omega)]
      rw [hge];by_cases e:j=k
      .subst e
       have h3:(E ++ [r])[j]=r:=by
        rw [Xl (by rw [hX.len];omega)];simp [hX.len]
       rw [h3,<- hn,<- hL];have:=hXi.edg;rw [Vq] at this;exact this
      .have h3:(E ++ [r])[j]=E[j]'(by rw [hX.len];omega):=W4 _;rw [h3];exact (hX.rows j (by omega) (by rw [hX.len];omega)).mono hXi.pre
    have et:kd (E ++ [r])=kd E ++ [[.sl 3 (r.map M3)]]:=(by simp [kd]);have hEl:E.length<=1000:=by rw [hX.len];omega
    repeat' first|refine gf (kf @hli @hmo) ?_|decide|refine sp ?_ ?_<;>intro _|(with_reducible apply And.intro)
    all_goals first
     | rfl
     | omega
     | exact rI (wS [0,1,2,3,7] et) ⟨k+1,M,E ++ [r],⟨hXe,.inl (by omega)⟩,rfl⟩
 .have hkn:k=N.length:=by have:=hX.le;omega
  subst hkn;have hle:N.length<=most:=by omega
  have hd:decide ((N.length:Int)<=(most:Int))=true:=VC (by omega)
  repeat' first|refine ge (kf @hlt @hle) ?_|decide|refine sp ?_ ?_<;>intro _
  refine ap [1] [0,1,2,3,4,5] (.exec 6 (.exec 7 .done)) (by kernel_rfl) (by simp [ae.gc]) ?_
  repeat' first|refine gf (kf @hlt @hle) ?_|decide|refine sp ?_ ?_<;>intro _
  all_goals exact ⟨_,.inr ⟨N,E,hX,hle,rfl⟩,kC (by simp [cO,aE.lt,AV.ltL,AV.lt]) (by simp [AV.lt,AV.ltL]),⟨[3,4],by decide,rfl,by simp [cH,ae.gc]⟩⟩
end
section
section
variable {next:List (List Int)} {at_:ah -> List Bool}
noncomputable def cj (next:List (List Int)) (at_:ah -> List Bool) (L:List cY) (i:Int):List Bool:=(de next at_ L).getD i.toNat []
theorem Fx (t:List cY):∀ s:List (List Bool),s <+: t.foldl (fun sets s=>sets ++ [gx next at_ sets s]) s:=by
 induction t with
 | nil=>exact fun s=>XK
 | cons x t ih=>exact fun s=>(XF _ _).trans (ih _)
theorem pG {L L':List cY} (h:L <+: L'):de next at_ L <+: de next at_ L':=by
 obtain ⟨t,rfl⟩:=h;unfold de;rw [Wh];exact Fx t _
theorem kz (L:List cY):(de next at_ L).length=L.length:=by
 have:=iE (next:=next) (at_:=at_) L L.length (Os _)
 rwa [Vq] at this
theorem ol {α:Type} {a b:List α} (h:a <+: b) {i:Nat} (hi:i<a.length) (d:α):b.getD i d=a.getD i d:=by
 obtain ⟨t,rfl⟩:=h;rw [Vl,Vl,VM hi]
theorem dW {L L':List cY} {i:Int} (hi:In L i) (h:L <+: L'):cj next at_ L' i=cj next at_ L i:=
 ol (pG h) (by rw [kz];have:=hi.ge;have:=hi.lt;omega) _
theorem BE {S S':List (List Bool)} {s:cY} (h:S <+: S') (hs:¬(1<=s.op /\ s.op<=14) -> s.a.toNat<S.length /\ s.b.toNat<S.length):gx next at_ S' s=gx next at_ S s:=by
 unfold gx;split
 .rfl
 .rename_i hn;obtain ⟨h1,h2⟩:=hs hn;unfold fD;rw [ol h h1,ol h h2]
theorem Dx {L:List cY} (hL:kE L) {i:Nat} {s:cY} (hi:L[i]? = some s):cj next at_ L (i:Int)=gx next at_ (de next at_ L) s:=by
 obtain ⟨hlt,hs⟩:=Vd.1 hi;have h1:L.take (i+1) <+: L:=List.take_prefix _ _;have h2:L.take i <+: L:=List.take_prefix _ _;have e:de next at_ (L.take (i+1))=de next at_ (L.take i) ++ [gx next at_ (de next at_ (L.take i)) s]:=by rw [kV hlt,hs]
 have hl:(de next at_ (L.take i)).length=i:=by rw [kz,Vr];omega
 have hg:=ol (pG (next:=next) (at_:=at_) h1) (i:=i) (by rw [e,Vi,hl];simp) [];obtain ⟨⟨a0,a1⟩,⟨b0,b1⟩,c1,_⟩:=hL.lt i s hi
 rw [BE (pG h2) fun hn=>by
  have:=c1 hn;rw [hl];exact ⟨by omega,by omega⟩]
 unfold cj;rw [WA,hg,e,Vl,VO (by omega),hl];simp
theorem nn (a:List Bool):(a.map (!·)).map (!·)=a:=by simp [XC,Function.comp_def]
theorem Tl {L:List cY} {s:cY} (hL:kE L) (hm:CU L s):cj next at_ (bw L s).1 (bw L s).2=gx next at_ (de next at_ L) s:=by
 unfold bw;split
 .rename_i h;have ha:=hm.2.2.1 (by omega);have h1:=xS hm.1.1 ha;have h2:=Dx (next:=next) (at_:=at_) hL h1;obtain ⟨t,ht⟩:∃ t,G7 L s.a=t:=⟨_,rfl⟩;rw [ht] at h h1 h2 ⊢
  have e1:∀ (S:List (List Bool)) (u:cY),u.op=15 -> gx next at_ S u=(S.getD u.a.toNat []).map (!·):=fun S u hu=>by
   rw [gx,Vh (by omega),fD];simp [hu]
  have e2:((s.a.toNat:Nat):Int)=s.a:=by have:=hm.1.1;omega
  rw [e1 _ t h.2,e2] at h2;rw [e1 _ s h.1];show cj next at_ L t.a=(cj next at_ L s.a).map (!·);rw [h2,nn];rfl
 .split
  .rename_i h;have h3:L[L.idxOf s]? = some s:=(by rw [f4 (Xi h),List.getElem_idxOf]);exact Dx hL h3
  .show cj next at_ (L ++ [s]) (L.length:Int)=_
   have e:de next at_ (L ++ [s])=de next at_ L ++ [gx next at_ (de next at_ L) s]:=by
    unfold de;rw [Wh];rfl
   unfold cj;rw [e,WA,Vl,VO (by rw [kz];omega),kz];simp
variable {n:Nat} {L:List cY} {a b:Int}
theorem vN (hg:el n L) (ha:In L a):cj next at_ (bw L (dw a)).1 (bw L (dw a)).2=(cj next at_ L a).map (!·):=by
 rw [Tl hg.st (oz ha),gx,Vh (show ¬((1:Int)<=15 /\ (15:Int)<=14) by decide),fD];rfl
theorem vX (hg:el n L) (ha:In L a):cj next at_ (bw L (G6 a)).1 (bw L (G6 a)).2=ud next (cj next at_ L a):=by
 rw [Tl hg.st (oz ha),gx,Vh (show ¬((1:Int)<=20 /\ (20:Int)<=14) by decide),fD];rfl
theorem vG (hg:el n L) (ha:In L a):cj next at_ (bw L (DD a)).1 (bw L (DD a)).2=He next (cj next at_ L a):=by
 rw [Tl hg.st (oz ha),gx,Vh (show ¬((1:Int)<=24 /\ (24:Int)<=14) by decide),fD];rfl
theorem vA (hg:el n L) (ha:In L a) (hb:In L b):cj next at_ (bw L (ly a b)).1 (bw L (ly a b)).2=k5 (cj next at_ L a) (cj next at_ L b):=by
 rw [Tl hg.st (uO ha hb),gx,Vh (show ¬((1:Int)<=16 /\ (16:Int)<=14) by decide),fD];rfl
theorem vU (hg:el n L) (ha:In L a) (hb:In L b):cj next at_ (bw L (uC a b)).1 (bw L (uC a b)).2=t7 next (cj next at_ L a) (cj next at_ L b):=by
 rw [Tl hg.st (uO ha hb),gx,Vh (show ¬((1:Int)<=26 /\ (26:Int)<=14) by decide),fD];rfl
theorem vI {x:ah} (hg:el n L) (hx:1<=x.op /\ x.op<=14):cj next at_ (bw L (ti x)).1 (bw L (ti x)).2=at_ x:=by
 rw [Tl hg.st (LW hx),gx,Vn hx]
end
def L6 (next:List (List Int)):Prop:=∀ r ∈ next,∀ x ∈ r,0<=x /\ x<(next.length:Int)
theorem fu {a:List Bool} {i:Nat} (h:i<a.length):(a.map (!·)).getD i false = !(a.getD i false):=by
 simp [List.getD,h]
theorem DB {a:List Bool} {x:Int} (h0:0<=x) (h1:x<(a.length:Int)):t6 (a.map (!·)) x = !(t6 a x):=by
 unfold t6;rw [fu (by omega),VC h0];simp
theorem Pd {next:List (List Int)} {a:List Bool} (hn:L6 next) (ha:a.length=next.length):(ud next (a.map (!·))).map (!·)=Hc next a:=by
 unfold ud Hc;rw [XC];refine List.map_congr_left fun r hr=>?_;have h:=hn r hr;simp only [Function.comp_apply,f7,qg,<- List.not_any_eq_all_not];rw [Wo];simp only [Xq,List.any_eq_false,Xj,Vw,VG,not_and];constructor
 .intro h1 x hx;obtain ⟨h2,h3⟩:=h x hx;have:=h1 x hx h3;rw [DB h2 (by omega)] at this;simpa using this
 .intro h1 x hx h4;obtain ⟨h2,h3⟩:=h x hx;rw [DB h2 (by omega),h1 x hx];simp
inductive PI (next:List (List Int)) (a b:List Bool):Nat -> Prop
 | here (i:Nat):b.getD i false=true -> PI next a b i
 | step (i:Nat):i<next.length -> a.getD i false=true -> (∀ x ∈ next.getD i [],0<=x) -> (∀ k:Nat,(k:Int) ∈ next.getD i [] -> PI next a b k) -> PI next a b i
theorem Pn (next:List (List Int)) (a:List Bool) {i:Nat} (hi:i<next.length):(Hc next a).getD i false=qg a (next.getD i []):=by
 simp [Hc,List.getD,hi]
theorem k6 {a:List Bool} {r:List Int}:qg a r=true ↔ ∀ x ∈ r,∃ k:Nat,x=(k:Int) /\ a.getD k false=true:=by
 unfold qg t6;simp only [Xj,Vw,VG];constructor
 .intro h x hx;obtain ⟨h1,h2⟩:=h x hx;exact ⟨x.toNat,by omega,h2⟩
 .intro h x hx;obtain ⟨k,rfl,h2⟩:=h x hx;exact ⟨by omega,by simpa using h2⟩
section
variable {next:List (List Int)} {a b:List Bool}
theorem pF (out:List Bool) (hl:out.length=next.length) (i:Nat):(pO next a out).getD i false=true ↔ i<next.length /\ (out.getD i false=true \/ (a.getD i false=true /\ qg out (next.getD i [])=true)):=by
 unfold pO;by_cases h:i<next.length
 .rw [Vl,Ve,Ws (by omega),VX,VH,jz,Pn _ _ h];simp [h]
 .rw [Vl,Vs (by simp;omega)];simp [h]
theorem p8 (hb:b.length=next.length):∀ m i,(rB next a b m).getD i false=true -> PI next a b i
 | 0,i,h=>.here i h
 | m+1,i,h=>by
  rw [rB,pF _ (by rw [dc,hb])] at h;obtain ⟨h1,h2|⟨h2,h3⟩⟩:=h
  .exact p8 hb m i h2
  .refine .step i h1 h2 (fun x hx=>?_) fun k hx=>?_
   .obtain ⟨k,e,hk⟩:=k6.1 h3 x hx;omega
   .obtain ⟨k',e,hk⟩:=k6.1 h3 _ hx;have:k'=k:=by omega
    subst this;exact p8 hb m k' hk
theorem zb (hb:b.length=next.length) (m i:Nat) (h:(rB next a b m).getD i false=true):(rB next a b (m+1)).getD i false=true:=by
 rw [rB,pF _ (by rw [dc,hb])];refine ⟨?_,.inl h⟩;by_cases h1:i<next.length
 .exact h1
 .rw [Vl,Vs (by rw [dc];omega)] at h;simp at h
theorem zx (m:Nat) (h:rB next a b (m+1)=rB next a b m):∀ k,rB next a b (m+k)=rB next a b m
 | 0=>rfl
 | k+1=>by
  show pO next a (rB next a b (m+k))=_;rw [zx m h k];exact h
theorem DS (hb:b.length=next.length):∀ m,(∃ k,k<m /\ rB next a b (k+1)=rB next a b k) \/ m<=cnt (rB next a b m)
 | 0=>.inr (Vg _)
 | m+1=>by
  rcases DS hb m with ⟨k,h1,h2⟩|h
  .exact .inl ⟨k,by omega,h2⟩
  .by_cases e:rB next a b (m+1)=rB next a b m
   .exact .inl ⟨m,by omega,e⟩
   .have:=PV (a:=rB next a b m) (b:=rB next a b (m+1)) (by rw [dc,dc]) (zb hb m) (Ne.symm e);exact .inr (by omega)
theorem OK (hb:b.length=next.length):pO next a (DE next a b)=DE next a b:=by
 rcases DS (a:=a) hb (next.length+1) with ⟨k,h1,h2⟩|h
 .have e:DE next a b=rB next a b k:=by
   have:=zx k h2 (next.length+1 - k);rw [show k+(next.length+1 - k)=next.length+1 by omega] at this;exact this
  rw [e];exact h2
 .have:=xl (rB next a b (next.length+1));rw [dc] at this;omega
theorem Ru (hb:b.length=next.length) (i:Nat):(DE next a b).getD i false=true ↔ PI next a b i:=by
 refine ⟨p8 hb _ i,fun h=>?_⟩;have hl:(DE next a b).length=next.length:=by rw [DE,dc,hb]
 have h0:∀ m i,b.getD i false=true -> (rB next a b m).getD i false=true:=fun m=>by
  induction m with
  | zero=>exact fun i h=>h
  | succ m ih=>exact fun i h=>zb hb m i (ih i h)
 induction h with
 | here i h=>exact h0 _ i h
 | step i h1 h2 h0 h3 ih=>
  rw [<- OK hb,pF _ hl];refine ⟨h1,.inr ⟨h2,k6.2 fun x hx=>?_⟩⟩;have:=h0 x hx;have e:x=((x.toNat:Nat):Int):=by omega
  exact ⟨x.toNat,e,ih x.toNat (e ▸ hx)⟩
end
theorem Lu {a:List Bool} {i:Nat} (h:a.getD i false=true):i<a.length:=by
 by_cases h1:i<a.length
 .exact h1
 .rw [Vl,Vs (by omega)] at h;simp at h
theorem Sg {next:List (List Int)} {a b:List Bool} (hn:L6 next) (ha:a.length=next.length) (hb:b.length=next.length) {i:Nat} (hi:i<next.length) :
  PI next a b i ↔ ¬ GC next (b.map (!·)) (k5 (a.map (!·)) (b.map (!·))) i /\ ¬ JT next (b.map (!·)) i:=by
 have nb:∀ i,i<next.length -> ((b.map (!·)).getD i false=true ↔ ¬ b.getD i false=true):=fun i h=>by rw [fu (by omega)];simp
 have na:∀ i,i<next.length -> ((a.map (!·)).getD i false=true ↔ ¬ a.getD i false=true):=fun i h=>by rw [fu (by omega)];simp
 constructor
 .intro h
  induction h with
  | here i h=>
   have hi:=Lu h;refine ⟨fun hE=>?_,fun hE=>?_⟩
   .cases hE with
    | here i h1 h2=>
     rw [gX,Vw] at h2;exact (nb i h1).1 h2.2 h
    | step i k h1 h2 h3 h4=>exact (nb i h1).1 h2 h
   .obtain ⟨S,hS,hs⟩:=hE;obtain ⟨h1,h2,_⟩:=hs i hS;exact (nb i h1).1 h2 h
  | step i h1 h2 h0 h3 ih=>
   have hk:∀ k,ny next i k -> ¬ GC next (b.map (!·)) (k5 (a.map (!·)) (b.map (!·))) k /\ ¬ JT next (b.map (!·)) k:=fun k he=>ih k he.1 he.2;refine ⟨fun hE=>?_,fun hE=>?_⟩
   .cases hE with
    | here i g1 g2=>
     rw [gX,Vw] at g2;exact (na i h1).1 g2.1 h2
    | step i k g1 g2 g3 g4=>exact (hk k g3).1 g4
   .obtain ⟨S,hS,hs⟩:=hE;obtain ⟨_,_,k,g3,g4⟩:=hs i hS;exact (hk k g3).2 ⟨S,g4,hs⟩
 .rintro ⟨h1,h2⟩;refine Classical.byContradiction fun hA=>h2 ⟨fun j=>j<next.length /\ ¬ PI next a b j /\ ¬ GC next (b.map (!·)) (k5 (a.map (!·)) (b.map (!·))) j,⟨hi,hA,h1⟩,fun j ⟨j1,j2,j3⟩=>?_⟩;have jb:(b.map (!·)).getD j false=true:=(nb j j1).2 fun h=>j2 (.here j h);have ja:a.getD j false=true:=Classical.byContradiction fun h=>j3 (.here j j1 (by rw [gX,(na j j1).2 h,jb];rfl));have hr:next.getD j [] ∈ next:=by rw [Vl,f4 j1];exact Vf j1
  refine ⟨j1,jb,Classical.byContradiction fun hk=>j2 (.step j j1 ja (fun x hx=>(hn _ hr x hx).1) fun k hx=>?_)⟩;have x1:=(hn _ hr _ hx).2;have he:ny next j k:=⟨hx,by omega⟩;exact Classical.byContradiction fun hx2=>hk ⟨k,he,he.2,hx2,fun hE=>j3 (.step j k j1 jb he hE)⟩
theorem fo (a b:List Bool):(k5 a b).length=max a.length b.length:=by simp [k5]
theorem Lc {next:List (List Int)} {a b:List Bool} (hn:L6 next) (ha:a.length=next.length) (hb:b.length=next.length) :
  k5 ((t7 next (b.map (!·)) (k5 (a.map (!·)) (b.map (!·)))).map (!·)) ((He next (b.map (!·))).map (!·))=DE next a b:=by
 refine lX (by rw [fo,Vo,Vo,df,dI,DE,dc,hb];simp) fun i hi=>?_;have hi:i<next.length:=by simpa [fo,df,dI] using hi
 rw [Ru hb,Sg hn ha hb hi,gX,fu (by rw [df];exact hi),fu (by rw [dI];exact hi)];simp only [Vw,Xq,<- Bool.not_eq_true,xM,Cm]
theorem Hs {n i:Nat} (h:i<n):(List.replicate n true).getD i false=true:=by simp [List.getD,h]
theorem Jc {next:List (List Int)} {a:List Bool} (hn:L6 next) (ha:a.length=next.length):(He next (a.map (!·))).map (!·)=DE next (List.replicate next.length true) a:=by
 have h1:=Lc hn (a:=List.replicate next.length true) (by simp) ha;rw [<- h1];refine lX (by simp [fo,df,dI]) fun i hi=>?_;have hi:i<next.length:=by simpa [dI] using hi
 rw [gX,fu (by rw [dI];exact hi),fu (by rw [df];exact hi)];simp only [Vw,Xq,<- Bool.not_eq_true,xM,Cm];refine ⟨fun h=>⟨fun hE=>?_,h⟩,fun h=>h.2⟩
 induction hE with
 | here i g1 g2=>
  rw [gX,fu (by simpa using g1),Hs g1] at g2;simp at g2
 | step i k g1 g2 g3 g4 ih=>
  refine ih (by simpa [dI] using g3.2) g3.2 fun hG=>h ?_;obtain ⟨S,hS,hs⟩:=hG
  exact ⟨fun j=>j=i \/ S j,.inl rfl,fun j hj=>by
   rcases hj with rfl|hj
   .exact ⟨g1,g2,k,g3,.inr hS⟩
   .obtain ⟨q1,q2,k',q3,q4⟩:=hs j hj;exact ⟨q1,q2,k',q3,.inr q4⟩⟩
end
section
theorem sS (op:Int) (a b:List Bool):(xO op a b).length=min a.length b.length:=by simp [xO]
theorem xe (op:Int) {a b:List Bool} {i:Nat} (h:i<a.length) (h2:i<b.length):(xO op a b).getD i false=(if op=18 then !(a.getD i false) || b.getD i false else if op=17 then a.getD i false || b.getD i false else a.getD i false && b.getD i false):=by
 have h3:i<min a.length b.length:=by omega
 unfold xO;rw [Vl,Ve,Ws h3];rfl
theorem tx {a b:List Bool} (hl:a.length=b.length) (h:∀ i,i<a.length -> a.getD i false=b.getD i false):a=b:=
 lX hl fun i hi=>by rw [h i hi]
theorem QY {a b:List Bool} (h:a.length=b.length):(k5 (a.map (!·)) (b.map (!·))).map (!·)=xO 17 a b:=by
 refine tx (by rw [sS];simp [fo,h]) fun i hi=>?_;have ha:i<a.length:=by simpa [fo,h] using hi
 have hb:i<b.length:=by omega
 rw [xe 17 ha hb,fu (by simpa [fo,h] using hb),gX,fu ha,fu hb];cases a.getD i false<;>cases b.getD i false<;>rfl
theorem Nf {a b:List Bool} (h:a.length=b.length):(k5 a (b.map (!·))).map (!·)=xO 18 a b:=by
 refine tx (by rw [sS];simp [fo,h]) fun i hi=>?_;have ha:i<a.length:=by simpa [fo,h] using hi
 have hb:i<b.length:=by omega
 rw [xe 18 ha hb,fu (by simpa [fo,h] using hb),gX,fu hb];cases a.getD i false<;>cases b.getD i false<;>rfl
theorem OV {a b:List Bool} (h:a.length=b.length):k5 a b=xO 16 a b:=by
 refine tx (by rw [sS];simp [fo,h]) fun i hi=>?_;have ha:i<a.length:=by simpa [fo,h] using hi
 have hb:i<b.length:=by omega
 rw [xe 16 ha hb,gX];rfl
section
variable {next:List (List Int)} {at_:ah -> List Bool} {n:Nat} {L:List cY} {a b op:Int}
theorem uB (h:aC op=1):op=15 \/ op=19 \/ op=20 \/ op=21 \/ op=22 \/ op=23 \/ op=24:=by
 unfold aC at h;split at h
 .omega
 .split at h
  .omega
  .split at h<;>omega
theorem Fk (h:aC op=2):op=16 \/ op=17 \/ op=18 \/ op=25 \/ op=26:=by
 unfold aC at h;split at h
 .omega
 .split at h
  .omega
  .split at h<;>omega
theorem UM (hn:L6 next) (hT:at_ dy=List.replicate next.length true) (hg:el n L) (ha:In L a) (hv:(cj next at_ L a).length=next.length) (hop:aC op=1) (hlim:n+8<=100000) :
  cj next at_ (jh L op a).1 (jh L op a).2=gh next op (cj next at_ L a):=by
 have m1:=mt hg ha (by omega);have v1:=vN (next:=next) (at_:=at_) hg ha;have i1:=Pm hg iR (by decide) (by omega);have w1:=vI (next:=next) (at_:=at_) hg (x:=dy) (by decide);rcases uB hop with rfl|rfl|rfl|rfl|rfl|rfl|rfl
 .exact v1
 .have m2:=UJ m1.good m1.isIn (by omega);show cj next at_ (bw _ (dw _)).1 (bw _ (dw _)).2=Hc next _;rw [vN m2.good m2.isIn,vX m1.good m1.isIn,v1,Pd hn hv]
 .exact vX hg ha
 .have m2:=RQ m1.good m1.isIn (by omega);show cj next at_ (bw _ (dw _)).1 (bw _ (dw _)).2=DE next _ _;rw [vN m2.good m2.isIn,vG m1.good m1.isIn,v1,Jc hn hv]
 .show cj next at_ (bw _ (uC _ _)).1 (bw _ (uC _ _)).2=t7 next _ _;rw [vU i1.good i1.isIn (ha.mono i1.pre),w1,hT,dW ha i1.pre]
 .have m2:=Pm m1.good iR (by decide) (by omega);have m3:=Pc m2.good m2.isIn (m1.isIn.mono m2.pre) (by omega);show cj next at_ (bw _ (dw _)).1 (bw _ (dw _)).2=(t7 next _ _).map (!·);rw [vN m3.good m3.isIn,vU m2.good m2.isIn (m1.isIn.mono m2.pre),vI m1.good (by decide),hT,dW m1.isIn m2.pre,v1]
 .exact vG hg ha
theorem UX (hn:L6 next) (hg:el n L) (ha:In L a) (hb:In L b) (hv:(cj next at_ L a).length=next.length) (hw:(cj next at_ L b).length=next.length) (hop:aC op=2) (hlim:n+8<=100000) :
  cj next at_ (jl L op a b).1 (jl L op a b).2=yC next op (cj next at_ L a) (cj next at_ L b):=by
 have e:(cj next at_ L a).length=(cj next at_ L b).length:=by omega
 rcases Fk hop with rfl|rfl|rfl|rfl|rfl
 .exact (vA hg ha hb).trans (OV e)
 .have hE:jl L 17 a b=bw (bw (bw (bw L (dw a)).1 (dw b)).1 (ly (bw L (dw a)).2 (bw (bw L (dw a)).1 (dw b)).2)).1 (dw (bw (bw (bw L (dw a)).1 (dw b)).1 (ly (bw L (dw a)).2 (bw (bw L (dw a)).1 (dw b)).2)).2):=rfl;rw [hE];have m1:=mt hg ha (by omega);have v1:=vN (next:=next) (at_:=at_) hg ha;generalize bw L (dw a)=p1 at *;have b1:=hb.mono m1.pre;have w1:=dW (next:=next) (at_:=at_) hb m1.pre;have m2:=mt m1.good b1 (by omega);have v2:=vN (next:=next) (at_:=at_) m1.good b1;generalize bw p1.1 (dw b)=p2 at *;have a2:=m1.isIn.mono m2.pre;have w2:=dW (next:=next) (at_:=at_) m1.isIn m2.pre;have m3:=G8 m2.good a2 m2.isIn (by omega);have v3:=vA (next:=next) (at_:=at_) m2.good a2 m2.isIn;generalize bw p2.1 (ly p1.2 p2.2)=p3 at *;rw [vN m3.good m3.isIn,v3,w2,v1,v2,w1];exact QY e
 .have hE:jl L 18 a b=bw (bw (bw L (dw b)).1 (ly a (bw L (dw b)).2)).1 (dw (bw (bw L (dw b)).1 (ly a (bw L (dw b)).2)).2):=rfl;rw [hE];have m1:=mt hg hb (by omega);have v1:=vN (next:=next) (at_:=at_) hg hb;generalize bw L (dw b)=p1 at *;have a1:=ha.mono m1.pre;have w1:=dW (next:=next) (at_:=at_) ha m1.pre;have m2:=G8 m1.good a1 m1.isIn (by omega);have v2:=vA (next:=next) (at_:=at_) m1.good a1 m1.isIn;generalize bw p1.1 (ly a p1.2)=p2 at *;rw [vN m2.good m2.isIn,v2,w1,v1];exact Nf e
 .have hE:jl L 25 a b=AE L a b:=rfl;rw [hE];unfold AE
  dsimp only
  have m1:=mt hg hb (by omega);have v1:=vN (next:=next) (at_:=at_) hg hb;generalize bw L (dw b)=p1 at *;have a1:=ha.mono m1.pre;have w1:=dW (next:=next) (at_:=at_) ha m1.pre;have m2:=mt m1.good a1 (by omega);have v2:=vN (next:=next) (at_:=at_) m1.good a1;generalize bw p1.1 (dw a)=p2 at *;have b2:=m1.isIn.mono m2.pre;have w2:=dW (next:=next) (at_:=at_) m1.isIn m2.pre;have m3:=G8 m2.good m2.isIn b2 (by omega);have v3:=vA (next:=next) (at_:=at_) m2.good m2.isIn b2;generalize bw p2.1 (ly p2.2 p1.2)=p3 at *;have b3:=b2.mono m3.pre;have w3:=dW (next:=next) (at_:=at_) b2 m3.pre;have m4:=Pc m3.good b3 m3.isIn (by omega);have v4:=vU (next:=next) (at_:=at_) m3.good b3 m3.isIn;generalize bw p3.1 (uC p1.2 p3.2)=p4 at *;have b4:=b3.mono m4.pre;have w4:=dW (next:=next) (at_:=at_) b3 m4.pre;have m5:=mt m4.good m4.isIn (by omega);have v5:=vN (next:=next) (at_:=at_) m4.good m4.isIn;generalize bw p4.1 (dw p4.2)=p5 at *;have b5:=b4.mono m5.pre;have w5:=dW (next:=next) (at_:=at_) b4 m5.pre;have m6:=RQ m5.good b5 (by omega);have v6:=vG (next:=next) (at_:=at_) m5.good b5;generalize bw p5.1 (DD p1.2)=p6 at *;have c6:=m5.isIn.mono m6.pre;have x6:=dW (next:=next) (at_:=at_) m5.isIn m6.pre;have m7:=mt m6.good m6.isIn (by omega);have v7:=vN (next:=next) (at_:=at_) m6.good m6.isIn;generalize bw p6.1 (dw p6.2)=p7 at *;have c7:=c6.mono m7.pre;have x7:=dW (next:=next) (at_:=at_) c6 m7.pre;rw [vA m7.good c7 m7.isIn,x7,x6,v5,v4,v7,v6,w5,w4,w3,w2,v1,v3,v2,w2,w1,v1];exact Lc hn hv hw
 .exact vU hg ha hb
theorem mK {r:List Int} (f:Int -> List Bool) (h:0<r.length):mX (r.map f)=f (gI r):=by
 have e:=ki h;rw [e,VE];simp [mX,gI]
theorem CG {r:List Int} (f:Int -> List Bool):(r.map f).dropLast=r.dropLast.map f:=by
 rw [List.dropLast_eq_take,List.dropLast_eq_take,List.map_take,Vo]
theorem u7 (hn:L6 next) (hT:at_ dy=List.replicate next.length true) {l:List ah} {e:Nat} (h:aZ (l.map ah.op) 0=some e) (hx:∀ x ∈ l,x.ok) (hl:l.length<=64) (hat:∀ x ∈ l,aC x.op=0 -> (at_ x).length=next.length) :
  ∀ k,k<=l.length -> (gg (l.take k)).2.map (cj next at_ (gg (l.take k)).1)=gp next at_ (l.take k)
 | 0,_=>by simp [gg,gp]
 | k+1,hk=>by
  have ih:=u7 hn hT h hx hl hat k (by omega);obtain ⟨h1,h2⟩:=mB h hx hl k (by omega);obtain ⟨hrl,_⟩:=wP h hat k (by omega);obtain ⟨d,h3,d',h4,h5⟩:=rO h (show k<l.length by omega);rw [h2] at h3;cases h3;rw [pp (by omega),vJ (by omega),<- ih];rw [<- ih] at hrl;generalize gg (l.take k)=p at *;obtain ⟨L,r⟩:=p;have hg:=h1.good;have hr:=h1.row;simp only at hg hr hrl h4 ⊢;have keep:∀ (P:Mk) (m:Nat) (q:List Int),kh m L P -> (∀ i ∈ q,i ∈ r) -> q.map (cj next at_ P.1)=q.map (cj next at_ L):=fun P m q hm hq=>List.map_congr_left fun i hi=>dW (hr i (hq i hi)) hm.pre;unfold lq gk;rcases mC h4 with ⟨e1,_⟩|⟨e1,e2,_⟩|⟨e1,e2,_⟩
  .have hop:=C7 e1;have m:=Pm hg (hx _ (Vf _)) hop (by omega);rw [Vh (by omega),Vh (by omega),Vh (by omega),Vh (by omega)];simp only [VE,VY,VP];rw [keep _ _ r m fun i hi=>hi,vI hg hop]
  .have hm:=jc e2;have m:=O7 (op:=l[k].op) hg (hr _ hm.1) (by omega);rw [Vn e1,Vn e1];simp only [VE,VY,VP];rw [keep _ _ _ m hm.2,mK _ e2,CG,UM hn hT hg (hr _ hm.1) (hrl _ (List.mem_map_of_mem hm.1)) e1 (by omega)]
  .have hm:=jc (show 0<r.length by omega);have hm2:=jc (r:=r.dropLast) (by simp;omega);have m:=O3 (op:=l[k].op) hg (hr _ (hm.2 _ hm2.1)) (hr _ hm.1) (by omega);rw [Vh (by omega),Vn e1,Vh (by omega),Vn e1];simp only [VE,VY,VP]
   rw [keep _ _ _ m fun i hi=>hm.2 i (hm2.2 i hi),CG,mK _ (by simp;omega),mK _ (by omega),CG,
    UX hn hg (hr _ (hm.2 _ hm2.1)) (hr _ hm.1) (hrl _ (List.mem_map_of_mem (hm.2 _ hm2.1))) (hrl _ (List.mem_map_of_mem hm.1)) e1 (by omega)]
theorem Gr (hn:L6 next) (hT:at_ dy=List.replicate next.length true) {l:List ah} (h:aZ (l.map ah.op) 0=some 1) (hx:∀ x ∈ l,x.ok) (hl:l.length<=64) (hat:∀ x ∈ l,aC x.op=0 -> (at_ x).length=next.length):iu next at_ l=nu next at_ l:=by
 have h1:=u7 hn hT h hx hl hat l.length (Os _);obtain ⟨_,h2⟩:=mB h hx hl l.length (Os _);rw [Vq] at h1 h2;rw [h] at h2;have h3:0<(gg l).2.length:=by have:=WE h2;omega
 unfold iu nu;rw [<- h1,mK _ h3];rfl
end
end
section
theorem k0:(((0:Nat):Int) == 0)=true:=rfl
theorem k1:(((1:Nat):Int) == 0)=false:=rfl
theorem k2:(((2:Nat):Int) == 0)=false:=rfl
theorem t1:Int.toNat 1=1:=rfl
end
section
theorem Nc (l:List ah) (hl:l.length<=70):aw Tryz.prog 13 [aR l] ⟨.sl 9 ((l.map ah.op).map I7),[],0⟩:=
 aw.still [0] (Nm l hl) (by simp [cM.frzs,cM.frz,iZ,ae.gc,AV.frz]) (by simp [AV.lt])
noncomputable def Gw (m:bk) (c:List Int) (nds:List Nd) (x:ah):List Bool:=nds.map fun n=>Ed m c n x
theorem E2 {ops:List Int} (h:lS ops=0):aZ ops 0=some 1 /\ 0<ops.length /\ ops.length<=64:=by
 unfold lS at h;split at h
 .cases h
 .split at h
  .cases h
  .split at h
   .rename_i h1 h2 h3;exact ⟨(qk ops h1 (by omega)).1 h3,by omega,by omega⟩
   .cases h
end
end
section
section
abbrev zr:AV:=.c (.slice none 0 0)
abbrev mS:List AV:=[zr,zr,eI 0,eI 0,zr,zr]
abbrev UL:List AV:=[zr,eI 0,eI 0,zr,zr]
def P8:bk:=⟨[],[],[],[],[],[],[],[],[],[]⟩
theorem H7:aw Tryz.prog 128 [zr] (val (.slice none 0 0)):=by
 refine aa ag Tryz.func128 rfl (by decide) Tryz.ntmps128 Tryz.results128 rfl (aL _) ?_
 repeat' first|refine gq ?_|decide|refine sp ?_ ?_<;>intro _
theorem RL:(⟨.agg UL,[],0⟩:cM).Ok:=⟨fun id o h=>(by cases h),⟨trivial,trivial,trivial,trivial,trivial,trivial⟩⟩
theorem Gm:aw Tryz.prog 90 [.agg mS] ⟨.agg UL,[],0⟩:=by
 refine aa ag Tryz.func90 rfl (by decide) Tryz.ntmps90 Tryz.results90 rfl (RL) ?_
 repeat' first|refine go ?_|decide|refine sp ?_ ?_<;>intro _
 refine ap [1] [0,1,2,3,4,5,7,8] (.exec 6 (.exec 9 (.take 10 (.exec 11 .done)))) (by kernel_rfl) (by simp [ae.gc]) ?_
 repeat' first|refine gq ?_|decide|refine sp ?_ ?_<;>intro _|((with_reducible first|apply ay (g:=128)|apply aP (g:=128));exact H7)|(with_reducible apply And.intro)
 all_goals exact gM rfl
theorem Qy:(⟨.tup [eB true,eB true],[],0⟩:cM).Ok:=⟨fun id o h=>(by cases h),⟨trivial,trivial,trivial⟩⟩
theorem KV:aw Tryz.prog 91 [.agg (aW P8),.agg UL,.agg (bX dy)] ⟨.tup [eB true,eB true],[],0⟩:=by
 refine aa ag Tryz.func91 rfl (by decide) Tryz.ntmps91 Tryz.results91 rfl (Qy) ?_
 repeat' first|refine go ?_|simp only [Int.reduceBEq]|decide|refine sp ?_ ?_<;>intro _
 exact gM rfl
theorem Ul:aw Tryz.prog 42 [.agg (aW P8),sI [],.agg mS,.agg (bX dy)] (val (.bool true)):=by
 refine aa ag Tryz.func42 rfl (by decide) Tryz.ntmps42 Tryz.results42 rfl (aL _) ?_
 repeat' first|refine go ?_|decide|refine sp ?_ ?_<;>intro _
 refine cZ Gm (ro) ?_
 repeat' first|refine go ?_|decide|refine sp ?_ ?_<;>intro _
 refine cZ KV (ro) ?_
 repeat' first|refine go ?_|decide|refine sp ?_ ?_<;>intro _
theorem KZ:aw Tryz.prog 22 [.agg (aW P8),sI [],.sl 6 [mS],.agg (bX dy)] (iZ 4 1 (iA [true])):=by
 refine aa ag Tryz.func22 rfl (by decide) Tryz.ntmps22 Tryz.results22 rfl (cT _ _ _) ?_
 repeat' first|refine go ?_|decide|refine sp ?_ ?_<;>intro _
 refine af (fun st=>∃ k:Nat,k<=1 /\ st=⟨28,[(1,sI []),(4,.op 0 0 0),(7,.op 1 0 0),(9,.osl 2),(12,.sl 6 [mS]),(13,eI 1),(14,eI (k:Int))],[(0,some (.box 32 (aW P8))),(1,some (.box 61 (bX dy))),(2,some (.row 4 1 (iA (List.replicate k true))))],3⟩) (fun st=>1 - ax st 14) ⟨_,((bA 9 4 1 (by simp only [jn,aj.get,bh,aj.put,↓reduceIte,reduceCtorEq,Nat.reduceLT,Nat.reduceEqDiff,Nat.reduceAdd,Nat.reduceLeDiff,eq_self,implies_true,List.replicate_zero,VP])).trans (wS [0,1,2] @List.replicate_zero.{0})),0,by omega,rfl⟩ ?_;rintro _ ⟨k,hk,rfl⟩;by_cases hlt:k<1
 .obtain rfl:k=0:=by omega
  have z:decide (((0:Nat):Int)<1)=true:=rfl;have r0:([mS]:List (List AV))[Int.toNat ((0:Nat):Int)]?.getD []=mS:=rfl;have i0:(0:Int)<=((0:Nat):Int):=by omega
  have i1:((0:Nat):Int)<((0+1:Nat):Int):=by omega
  repeat' first|refine ge (kf z (kf r0 (kf i0 i1))) ?_|decide|refine sp ?_ ?_<;>intro _
  refine ay Ul ?_
  repeat' first|refine ge @List.replicate_zero.{0} ?_|decide|refine sp ?_ ?_<;>intro _
  refine ⟨rfl,cU (wS [0,1,5] (kf @List.replicate_zero.{0} @List.replicate_succ.{0})) ⟨1,by omega,rfl⟩ (by simp only [ax,aj.get,bh,aj.put,↓reduceIte,Nat.reduceLT,Nat.reduceEqDiff];omega)⟩
 obtain rfl:k=1:=by omega
 have z:decide (((1:Nat):Int)<1)=false:=rfl
 repeat' first|refine ge z ?_|decide|refine sp ?_ ?_<;>intro _
 exact aY (by simp [ae.gc])
abbrev Pg:List ah:=[dy,⟨23,0,0,0,0,0,0⟩]
abbrev Py:List (List pf):=[[⟨-1,-1,0⟩]]
theorem D9:gg Pg=([ti dy,dw 0,uC 0 1,dw 2],[3]):=by decide +kernel
theorem NE:be (Pg.map ah.op)=0:=by decide +kernel
theorem Sw:t7 [[0]] [true] [false]=[false]:=by
 have h:∀ i,¬ GC [[0]] [true] [false] i:=by
  intro i h
  induction h with
  | here i h1 h2=>cases i<;>simp at h2
  | step i k h1 h2 h3 h4 ih=>exact ih
 simp [t7,h,Wu]
theorem Oi (at_:ah -> List Bool) (h:at_ dy=[true]):iu (aQ Py) at_ Pg=[true]:=by
 unfold iu;rw [D9];have e:aQ Py=[[0]]:=rfl;rw [e];have s1:gx [[0]] at_ [] (ti dy)=[true]:=by rw [gx,Vn (by decide)];exact h
 have s2:gx [[0]] at_ [[true]] (dw 0)=[false]:=by rw [gx,Vh (by decide)];rfl
 have s3:gx [[0]] at_ [[true],[false]] (uC 0 1)=[false]:=by
  rw [gx,Vh (by decide)];show t7 [[0]] [true] [false]=[false];exact Sw
 have s4:gx [[0]] at_ [[true],[false],[false]] (dw 2)=[true]:=by rw [gx,Vh (by decide)];rfl
 simp only [de,Xc,Wr,WT,Wg,s1,s2,s3,s4];rfl
theorem Gp:∀ x ∈ Pg,x.ok:=by
 intro x hx;simp at hx;rcases hx with rfl|rfl<;>simp [ah.ok,aI]
theorem HZ:aw Tryz.prog 10 [.agg (aW P8),sI [],.agg [.sl 6 [mS],.sl 1 (kd Py)],aR Pg] ⟨.tup [eB true,eI 0],[],0⟩:=by
 have hnx:xb (aQ Py):=⟨by decide,by decide,by
  intro r hr x hx;simp at hr;subst hr;simp at hx;subst hx;simp [aI]⟩
 have hlab:=uF P8 [] 6 [mS] (by kernel_rfl) Py Pg (fun _=>[true]) Gp (by decide) (by decide) (by decide) (by decide) (fun _=>hnx) (fun _ s hs _ hop _=>by
  rw [D9] at hs;simp only [V8,List.not_mem_nil,or_false] at hs;rcases hs with rfl|rfl|rfl|rfl
  .exact ⟨KZ,rfl⟩
  all_goals exact absurd hop (by decide))
 have hl:=Oi (fun _=>[true]) rfl;have h:=GP P8 [] 6 [mS] Py Pg (fun _=>[true]) hlab (fun _=>by rw [hl];rfl)
 have hH:jH [mS].length Py (fun _=>[true]) Pg=⟨.tup [eB true,eI 0],[],0⟩:=by
  rw [jH,Vn ⟨NE,rfl⟩,Vh (by decide),hl];rfl
 rw [hH] at h;exact h
theorem mh:aw Tryz.prog 5 [] (val (.bool true)):=by
 refine aa ag Tryz.func5 rfl (by decide) Tryz.ntmps5 Tryz.results5 rfl (aL _) ?_
 repeat' first|refine go ?_|decide|refine sp ?_ ?_<;>intro _
 refine ⟨by decide,rfl,rfl,rfl,?_⟩;refine cZ (HZ.fits ⟨.agg ⟨.nil 1,.nil 1,.nil 1,.nil 2,.nil 2,.nil 5,.nil 3,.nil 5,.nil 2,.nil 2,trivial⟩,.one (.nil 1),.one (.refl _),.one (.refl _),trivial⟩) (.inr ⟨trivial,trivial,trivial⟩) ?_
 repeat' first|refine go ?_|simp only [Int.reduceBEq]|decide|refine sp ?_ ?_<;>intro _
theorem bJ:xb []:=⟨by decide,by simp,by simp⟩
end
section
theorem nT {α:Type} [DecidableEq α]:∀ (l p:List α),l.Nodup -> (∀ x ∈ l,x ∈ p) -> l.length<=p.length
 | [],_,_,_=>Vg _
 | x :: l,p,hn,hs=>by
  rw [List.nodup_cons] at hn;have hx:x ∈ p:=hs x V1;have h1:=nT l (p.erase x) hn.2 fun y hy=>(List.mem_erase_of_ne (fun e:y=x=>hn.1 (by rw [<- e];exact hy))).2 (hs y (VT _ hy));rw [List.length_erase_of_mem hx] at h1;have:=List.length_pos_of_mem hx;rw [VI];omega
theorem yA {α:Type} [DecidableEq α] (l:List α):(ch l).Nodup:=by
 have key:∀ k,k<=l.length -> (ch (l.take k)).Nodup:=fun k=>by
  induction k with
  | zero=>intro _;simp [ch]
  | succ k ih=>
   intro hk;have h:=ih (by omega);rw [kK (by omega)];split
   .exact h
   .rename_i hm;rw [Xp];refine ⟨h,by simp,fun a ha b hb=>?_⟩;simp only [VF] at hb;rw [hb];exact fun e=>hm (e ▸ ha)
 have:=key l.length (Os _)
 rwa [Vq] at this
theorem Dd {m:bk} {c:List Int} {n:Nd} {k:Nat} {s:Sn} (h:s ∈ du m c n k):∃ e u:Nat,e<k /\ u<m.users.length /\ s.ev=(e:Int) /\ s.us=(u:Int):=by
 obtain ⟨e,he,h1⟩:=V6.1 h;obtain ⟨u,hu,h2⟩:=V6.1 h1;obtain ⟨z,_,rfl⟩:=Vt.1 h2;have:=mw hu;exact ⟨e,u.toNat,WS.1 he,by omega,rfl,by show u=_;omega⟩
theorem yD {m:bk} {c:List Int} {n:Nd} (hE:gF m c) {N:List Nd} (hN:∀ s ∈ kk m c n,s.nd ∈ N):(kk m c n).length<=24 * N.length+1:=by
 unfold kk at hN ⊢;split
 .rename_i hP;rw [Vn hP] at hN
  have h1:=nT (ch (du m c n m.events.length)) ((List.range 6).flatMap fun e=>(List.range 4).flatMap fun u=>N.map fun x=>(⟨((e:Nat):Int),((u:Nat):Int),x⟩:Sn)) (yA _) fun s hs=>by
   have hsN:=hN s (List.mem_append_left _ hs);rw [mm] at hs;obtain ⟨e,u,he,hu,h2,h3⟩:=Dd hs;have h4:=hE.ck.chk.events;have h5:=hE.ck.chk.users;refine V6.2 ⟨e,WS.2 (by omega),V6.2 ⟨u,WS.2 (by omega),Vt.2 ⟨s.nd,hsN,?_⟩⟩⟩;rw [<- h2,<- h3]
  have h6:((List.range 6).flatMap fun e=>(List.range 4).flatMap fun u=>N.map fun x=>(⟨((e:Nat):Int),((u:Nat):Int),x⟩:Sn)).length<=6 * (4 * N.length):=by
   have:=gU (fun e:Nat=>(List.range 4).flatMap fun u=>N.map fun x=>(⟨((e:Nat):Int),((u:Nat):Int),x⟩:Sn)) (4 * N.length) (List.range 6) fun e _=>by
    have:=gU (fun u:Nat=>N.map fun x=>(⟨((e:Nat):Int),((u:Nat):Int),x⟩:Sn)) N.length (List.range 4) fun u _=>by simp
    simpa using this
   simpa using this
  rw [Vi];split
  .simp only [Wt];omega
  .simp only [Vy];omega
 .exact Vg _
section
variable {m:bk} {c:List Int} {N:List Nd} {E:List (List pf)}
theorem Pz (hX:t9 m c N E N.length):1<=N.length:=by
 have:=(Vd.1 hX.first).1;omega
theorem G3 (hX:t9 m c N E N.length) {n:Nd} (hn:n ∈ N):∀ s ∈ kk m c n,s.nd ∈ N:=by
 intro s hs;obtain ⟨i,hi,rfl⟩:=VB hn;obtain ⟨j,hj,rfl⟩:=VB hs;have hr:=hX.rows i hi (by rw [hX.len];exact hi);obtain ⟨_,_,_,h⟩:=hr.2 j hj (by rw [hr.1];exact hj);exact p0 h
theorem DX (hX:t9 m c N E N.length) (hE:gF m c) (h120:N.length<=160):xb (aQ E) /\ L6 (aQ E) /\ (aQ E).length=N.length:=by
 have hl:(aQ E).length=N.length:=by simp [aQ,hX.len]
 have hd:∀ r ∈ aQ E,r.length<=4000 /\ ∀ x ∈ r,0<=x /\ x<(N.length:Int):=fun r hr=>by
  obtain ⟨q,hq,rfl⟩:=Vt.1 hr;obtain ⟨i,hi,rfl⟩:=VB hq;have hi2:i<N.length:=by rw [<- hX.len];exact hi
  have h1:=hX.rows i hi2 hi;have h2:=yD hE (G3 hX (Vf hi2));refine ⟨by rw [Vo,h1.1];omega,fun x hx=>?_⟩;obtain ⟨e,he,rfl⟩:=Vt.1 hx;obtain ⟨j,hj,rfl⟩:=VB he;obtain ⟨_,_,h3,h4⟩:=h1.2 j (by rw [<- h1.1];exact hj) hj;have:=(Vd.1 h4).1;omega
 refine ⟨⟨by omega,fun r hr=>(hd r hr).1,fun r hr x hx=>?_⟩,fun r hr x hx=>?_,hl⟩
 .have:=(hd r hr).2 x hx;unfold aI;omega
 .rw [hl];exact (hd r hr).2 x hx
theorem FH (m:bk) (c:List Int) (n:Nd):Ed m c n dy=true:=by simp [Ed,jM]
theorem AC (m:bk) (c:List Int) (N:List Nd):Gw m c N dy=List.replicate N.length true:=by
 unfold Gw;rw [List.eq_replicate_iff];refine ⟨by simp,fun b hb=>?_⟩;obtain ⟨n,_,rfl⟩:=Vt.1 hb;exact FH m c n
theorem LG (ops:List Int):be ops=0 ↔ lS ops=0:=by
 unfold be lS;by_cases h0:ops.length=0
 .simp [h0]
 .by_cases h1:64<ops.length
  .simp [h0,h1]
  .have:=qk ops h0 (by omega);simp only [h0,h1,if_false];by_cases h2:aZ ops 0=some 1
   .rw [Vn h2,Vn (this.2 h2)]
   .rw [Vh h2,Vh fun h=>h2 (this.1 h)]
end
theorem lR (a:List Bool) (ha:a.length<=1000000):aw Tryz.prog 11 [ji a,ji a] (val (.bool true)):=by
 refine aa ag Tryz.func11 rfl (by decide) Tryz.ntmps11 Tryz.results11 rfl (aL _) ?_;have z:((a.length:Int) != (a.length:Int))=false:=by simp
 repeat' first|refine ge z ?_|decide|refine sp ?_ ?_<;>intro _
 refine af (fun st=>∃ k:Nat,k<=a.length /\ st=⟨26,[(0,ji a),(1,ji a),(5,eI (k:Int))],[],0⟩) (fun st=>a.length - ax st 5) ⟨_,wC,0,Vg _,rfl⟩ ?_;rintro _ ⟨k,hk,rfl⟩;by_cases hlt:k<a.length
 .obtain ⟨x,hx⟩:∃ x,x=a[k]:=⟨_,rfl⟩;have hrow:(a.map fun b=>[eB b])[k]?.getD []=[eB x]:=by rw [hx];simp [hlt]
  have z1:(x == x)=true:=by simp
  repeat' first|refine gf (kf @hrow (kf @hlt (kf z1 @XM))) ?_|decide|refine sp ?_ ?_<;>intro _
  all_goals exact rI wC ⟨k+1,by omega,rfl⟩
 .obtain rfl:k=a.length:=by omega
  repeat' first|refine gf @hlt ?_|decide|refine sp ?_ ?_<;>intro _
abbrev OS:AV:=.agg [.c (.slice none 0 0),.c (.slice none 0 0)]
abbrev TX (N:List Nd) (E:List (List pf)):AV:=.agg [.sl 6 (N.map jR),.sl 1 (kd E)]
def TZ (m:bk) (c:List Int) (R:cM):Prop:=R=⟨.tup [OS,OS,eB false],[],0⟩ \/ ∃ N E,gF m c /\ t9 m c N E N.length /\ N.length<=120 /\ R=⟨.tup [TX N E,TX N E,eB true],[],0⟩
theorem Mo (m:bk) (c:List Int) (hp:∀ p ∈ m.stages,aI p.2) (hr:∀ p ∈ m.roles,aI p.2) (hi:∀ x ∈ m.inits,aI x) (hc:∀ x ∈ c,aI x):dt Tryz.prog 7 [.agg (aW m),sI c] (TZ m c):=by
 refine bm ag Tryz.func7 rfl (by decide) Tryz.ntmps7 Tryz.results7 rfl ?_;have rN:∀ st:aj,∃ R,TZ m c R /\ R.Ok /\ fe R st (.tup [OS,OS,eB false]):=fun st=>⟨_,.inl rfl,⟨fun id o h=>(by cases h),by simp [AV.lt,AV.ltL]⟩,aX (by simp [AV.ren,AV.renL])⟩
 repeat' first|refine go ?_|decide|refine sp ?_ ?_<;>intro _
 refine lJ (FK m) fun b hb=>?_
 cases b with
 | true=>
  repeat' first|refine go ?_|decide|refine sp ?_ ?_<;>intro _
  all_goals exact rN _
 | false=>
  have hf:=hb rfl
  repeat' first|refine go ?_|decide|refine sp ?_ ?_<;>intro _
  refine lJ (Bk m hf hp) fun b hck=>?_
  cases b with
  | false=>
   repeat' first|refine go ?_|decide|refine sp ?_ ?_<;>intro _
   all_goals exact rN _
  | true=>
   have hck:=hck rfl;by_cases h6:c.length<=6
   .have hE:gF m c:=⟨hf,hck,by omega,hc,hp,hr⟩;have hd:decide ((6:Int)<(c.length:Int))=false:=Vu (by omega);have hX:=FQ m c 120 hE hi (by omega);have e120:((120:Nat):Int)=120:=rfl;rw [e120] at hX
    repeat' first|refine ge hd ?_|decide|refine sp ?_ ?_<;>intro _
    refine tw hX ?_;rintro R (rfl | ⟨N,E,hXk,hNl,rfl⟩)
    .refine ⟨ro,?_⟩
     repeat' first|refine ge @aB ?_|decide|refine sp ?_ ?_<;>intro _
     refine ap [1,2] [0,1,2,3,4,5,6] (.exec 7 (.exec 8 (.exec 9 .done))) (by kernel_rfl) (by simp [ae.gc]) ?_
     repeat' first|refine go ?_|decide|refine sp ?_ ?_<;>intro _
     repeat' (with_reducible apply And.intro)
     all_goals exact rN _
    .refine ⟨ro,?_⟩
     repeat' first|refine ge @aB ?_|decide|refine sp ?_ ?_<;>intro _
     refine ap [1,2] [0,1,2,3,4,5,6] (.exec 7 (.exec 8 (.exec 9 .done))) (by kernel_rfl) (by simp [ae.gc]) ?_
     repeat' first|refine go ?_|decide|refine sp ?_ ?_<;>intro _
     repeat' (with_reducible apply And.intro)
     all_goals exact ⟨_,.inr ⟨N,E,hE,hXk,hNl,rfl⟩,⟨fun id o h=>(by cases h),by simp [AV.lt,AV.ltL]⟩,aX (by simp [AV.ren,AV.renL])⟩
   .have hd:decide ((6:Int)<(c.length:Int))=true:=VC (by omega)
    repeat' first|refine ge hd ?_|decide|refine sp ?_ ?_<;>intro _
    all_goals exact rN _
end
section
section
variable {m:bk} {c:List Int} {N:List Nd} {E:List (List pf)}
end
theorem C1 (m:bk) (h:CR m) (p:List ah) (hp:∀ x ∈ p,x.ok):∀ n ∈ fj m p,aI n:=fun n hn=>by
 have h1:=((il _).2 n).1 hn;have key:∀ l:List ah,(∀ x ∈ l,x.ok) -> ∀ n ∈ ff l,aI n:=fun l hl n hn=>FB l hl n (((il _).2 n).1 hn);rcases Vp.1 h1 with h1|h1
 .rcases Vp.1 h1 with h1 | h1
  .exact key p hp n h1
  .obtain ⟨g,hg,h2⟩:=V6.1 h1;exact key _ (h.1 g hg) n h2
 .obtain ⟨g,hg,h2⟩:=V6.1 h1;exact key _ (h.2 g hg) n h2
end
section
def fH (o:Int):ah:=⟨o,0,0,0,0,0,0⟩
section
variable {next:List (List Int)} {at_:ah -> List Bool}
theorem rz {l:List ah} (h:aZ (l.map ah.op) 0=some 1) (hat:∀ x ∈ l,aC x.op=0 -> (at_ x).length=next.length):gp next at_ l=[nu next at_ l] /\ (nu next at_ l).length=next.length:=by
 obtain ⟨h1,h2⟩:=wP (next:=next) h hat l.length (Os _);rw [Vq] at h1 h2;rw [h] at h2;have hl:(gp next at_ l).length=1:=(WE h2).symm;obtain ⟨a,ha⟩:=List.length_eq_one_iff.1 hl;have e:nu next at_ l=a:=by rw [nu,ha];rfl
 rw [e];exact ⟨ha,h1 a (by rw [ha];simp)⟩
theorem DF {a:List Bool}:∀ ops:List Int,(∀ o ∈ ops,aC o=1) -> (ops.map fH).foldl (gk next at_) [a]=[ops.foldl (fun a o=>gh next o a) a]
 | [],_=>rfl
 | o :: ops,h=>by
  have h1:aC (fH o).op=1:=h o (V1 ..)
  have e:gk next at_ [a] (fH o)=[gh next o a]:=by
   unfold gk;rw [Vn h1];rfl
  rw [VY,Xc,e,DF ops fun o ho=>h o (VT _ ho)];rfl
theorem u4:∀ ops:List Int,(∀ o ∈ ops,aC o=1) -> aZ ops 1=some 1
 | [],_=>rfl
 | o :: ops,h=>by
  have h1:=h o (V1 ..);have e:bU 1 o=some 1:=by simp [bU,h1]
  rw [aZ,e];exact u4 ops fun o ho=>h o (VT _ ho)
theorem K7 {l:List ah} {ops:List Int} (h:aZ (l.map ah.op) 0=some 1) (ho:∀ o ∈ ops,aC o=1):aZ ((l ++ ops.map fH).map ah.op) 0=some 1:=by
 have e:(ops.map fH).map ah.op=ops:=by simp [XC,Function.comp_def,fH]
 rw [VE,fJ,h,e];exact u4 ops ho
theorem Ig {l:List ah} {ops:List Int} (h:aZ (l.map ah.op) 0=some 1) (hat:∀ x ∈ l,aC x.op=0 -> (at_ x).length=next.length) (ho:∀ o ∈ ops,aC o=1):nu next at_ (l ++ ops.map fH)=ops.foldl (fun a o=>gh next o a) (nu next at_ l):=by
 have e:gp next at_ (l ++ ops.map fH)=(ops.map fH).foldl (gk next at_) (gp next at_ l):=by simp [gp,Wh]
 rw [nu,e,(rz h hat).1,DF ops ho];rfl
theorem Cn {l:List ah} (h:aZ (l.map ah.op) 0=some 1) (hl:l.length<=64) (h0:l ≠ []):lS (l.map ah.op)=0:=by
 have hp:0<l.length:=List.length_pos_iff.2 h0;have h1:(l.map ah.op).length ≠ 0:=by rw [Vo];omega
 have h2:(l.map ah.op).length<=64:=by rw [Vo];exact hl
 unfold lS;rw [Vh h1,Vh (by omega),Vn ((qk _ h1 h2).2 h)]
theorem ED {l:List ah} {a:List Bool}:∀ {e:Nat},aZ (l.map ah.op) 0=some e -> l.foldl (gk next at_) [a]=a :: gp next at_ l /\ (gp next at_ l).length=e:=by
 have key:∀ (r:List ah) (e:Nat),aZ (r.reverse.map ah.op) 0=some e -> r.reverse.foldl (gk next at_) [a]=a :: gp next at_ r.reverse /\ (gp next at_ r.reverse).length=e:=by
  intro r
  induction r with
  | nil=>intro e h;simp [aZ] at h;subst h;exact ⟨rfl,rfl⟩
  | cons x r ih=>
   intro e h;rw [Xb,VE,fJ] at h
   cases h1:aZ (r.reverse.map ah.op) 0 with
   | none=>rw [h1] at h;cases h
   | some d=>
    rw [h1] at h;obtain ⟨i1,i2⟩:=ih d h1
    have hp:bU d x.op=some e:=by
     have:aZ [x.op] d=some e:=h;unfold aZ at this
     cases hq:bU d x.op with
     | none=>rw [hq] at this;cases this
     | some d'=>rw [hq] at this;simpa [aZ] using this
    have er:gp next at_ (r.reverse ++ [x])=gk next at_ (gp next at_ r.reverse) x:=by simp [gp,Wh]
    have hst:gk next at_ (a :: gp next at_ r.reverse) x=a :: gk next at_ (gp next at_ r.reverse) x /\ (gk next at_ (gp next at_ r.reverse) x).length=e:=by
     generalize gp next at_ r.reverse=s at i2 ⊢;unfold gk;rcases mC hp with ⟨g1,g2⟩|⟨g1,g2,g3⟩|⟨g1,g2,g3⟩
     .have n1:¬ aC x.op=1:=(by omega);have n2:¬ aC x.op=2:=(by omega);rw [Vh n1,Vh n2,Vh n1,Vh n2];exact ⟨rfl,by simp;omega⟩
     .rw [Vn g1,Vn g1]
      obtain ⟨q,y,rfl⟩:∃ q y,s=q ++ [y]:=by
       rcases ey s with rfl|h
       .simp at i2;omega
       .exact h
      rw [<- Wg];simp only [List.dropLast_concat,mX,List.getLastD_concat];exact ⟨rfl,by simp at i2 ⊢;omega⟩
     .have n1:¬ aC x.op=1:=(by omega);rw [Vh n1,Vn g1,Vh n1,Vn g1]
      obtain ⟨q,y,rfl⟩:∃ q y,s=q ++ [y]:=by
       rcases ey s with rfl|h
       .simp at i2;omega
       .exact h
      obtain ⟨p,z,rfl⟩:∃ p z,q=p ++ [z]:=by
       rcases ey q with rfl|h
       .simp at i2;omega
       .exact h
      rw [<- Wg,<- Wg];simp only [List.dropLast_concat,mX,List.getLastD_concat];exact ⟨rfl,by simp at i2 ⊢;omega⟩
    rw [Xb,Wh,i1,er];exact hst
 intro e h;have:=key l.reverse e (by rw [WP];exact h)
 rwa [WP] at this
theorem Dn:∀ (l:List Int) (d d' k:Nat),aZ l d=some d' -> aZ l (d+k)=some (d'+k)
 | [],d,d',k,h=>by simp [aZ] at h;subst h;rfl
 | op :: l,d,d',k,h=>by
  unfold aZ at h ⊢
  cases hp:bU d op with
  | none=>rw [hp] at h;cases h
  | some d1=>
   rw [hp] at h
   have hq:bU (d+k) op=some (d1+k):=by
    unfold bU;rcases mC hp with ⟨g1,g2⟩|⟨g1,g2,g3⟩|⟨g1,g2,g3⟩
    .rw [Vn g1];congr 1;omega
    .rw [Vh (by omega),Vn ⟨g1,by omega⟩];congr 1;omega
    .rw [Vh (by omega),Vh (by omega),Vn ⟨g1,by omega⟩];congr 1;omega
   rw [hq];exact Dn l d1 d' k h
theorem CZ {l:List ah} {o:Int} (h:aZ (l.map ah.op) 0=some 1) (ho:aC o=2):aZ (((fH 1 :: l) ++ [fH o]).map ah.op) 0=some 1:=by
 have e:((fH 1 :: l) ++ [fH o]).map ah.op=1 :: (l.map ah.op ++ [o]):=by simp [fH]
 have h1:bU 0 1=some 1:=by decide
 have h2:aZ (l.map ah.op) 1=some 2:=Dn _ 0 1 1 h;have h3:bU 2 o=some 1:=by simp [bU,ho]
 rw [e,aZ,h1];show aZ (l.map ah.op ++ [o]) 1=some 1;rw [fJ,h2];show aZ [o] 2=some 1;rw [aZ,h3];rfl
theorem Cf {l:List ah} {o:Int} (h:aZ (l.map ah.op) 0=some 1) (hat:∀ x ∈ l,aC x.op=0 -> (at_ x).length=next.length) (ho:aC o=2):nu next at_ ((fH 1 :: l) ++ [fH o])=yC next o (at_ (fH 1)) (nu next at_ l):=by
 have e1:gk next at_ [] (fH 1)=[at_ (fH 1)]:=rfl
 have e:gp next at_ ((fH 1 :: l) ++ [fH o])=gk next at_ (l.foldl (gk next at_) [at_ (fH 1)]) (fH o):=by
  simp only [gp,Wh,Xc,Wr,e1]
 have ho2:aC (fH o).op=2:=ho;rw [nu,e,(ED h).1,(rz h hat).1];unfold gk;rw [Vh (by omega),Vn ho2];rfl
theorem QL {p:List Bool} (hn:L6 next) (hp:p.length=next.length) {i:Nat} (hi:i<next.length) :
  (gh next 23 p).getD i false=(p.getD i false && (Hc next (gh next 23 p)).getD i false):=by
 have es:gh next 23 p=(t7 next (List.replicate next.length true) (p.map (!·))).map (!·):=rfl;rw [es];obtain ⟨u,hu⟩:∃ u,u=t7 next (List.replicate next.length true) (p.map (!·)):=⟨_,rfl⟩;have hul:u.length=next.length:=by rw [hu,df]
 have hfix:=Qe next (List.replicate next.length true) (p.map (!·)) i hi;rw [<- hu] at hfix ⊢;rw [fu (by omega),Pn next _ hi,Wo,Vw,k6];have hrep:(List.replicate next.length true).getD i false=true:=Hs hi;rw [fu (by omega)] at hfix;have hfix:u.getD i false=true ↔ ((!(p.getD i false))=true \/ ∃ k,ny next i k /\ u.getD k false=true):=by rw [hfix,hrep,V4,Xd,B6]
 have hgi:next.getD i [] ∈ next:=by rw [Vl,f4 hi];exact Vf hi
 constructor
 .intro h;have hu0:u.getD i false=false:=by simpa using h
  have hno:¬ _:=fun hh=>by
   have:=hfix.2 hh;rw [hu0] at this;cases this
  refine ⟨?_,fun x hx=>?_⟩
  .cases hpi:p.getD i false with
   | true=>rfl
   | false=>exact absurd (.inl (by rw [hpi];rfl)) hno
  .obtain ⟨h0,h1⟩:=hn _ hgi x hx;refine ⟨x.toNat,by omega,?_⟩;rw [fu (by omega)]
   cases hux:u.getD x.toNat false with
   | false=>rfl
   | true=>exact absurd (.inr ⟨x.toNat,⟨by rw [Int.toNat_of_nonneg h0];exact hx,by omega⟩,hux⟩) hno
 .rintro ⟨h1,h2⟩
  cases hui:u.getD i false with
  | false=>rfl
  | true=>
   rcases hfix.1 hui with h3|⟨k,⟨h4,h5⟩,h6⟩
   .rw [h1] at h3;cases h3
   .obtain ⟨k',e,h7⟩:=h2 _ h4;have:k'=k:=by omega
    subst this;rw [fu (by omega),h6] at h7;cases h7
end
end
end
section
section
theorem k9 (l:List ah) (ops:List Int) (hl:l.length<=100) (ho:ops.length<=10):aw Tryz.prog 14 [aR l,.sl 1 (ops.map fun n=>[eI n])] (iZ 61 7 ((l ++ ops.map fH).map bX)):=by
 refine aa ag Tryz.func14 rfl (by decide) Tryz.ntmps14 Tryz.results14 rfl (cT _ _ _) ?_
 repeat' first|refine go ?_|decide|refine sp ?_ ?_<;>intro _
 refine ⟨rfl,⟨by omega,by omega⟩,?_⟩
 refine af (fun st=>∃ k:Nat,k<=ops.length /\ st=⟨25,[(0,aR l),(1,.sl 1 (ops.map fun n=>[eI n])),(5,.osl 0),(6,eI (k:Int))],[(0,some (.row 61 7 ((l ++ (ops.take k).map fH).map bX)))],1⟩) (fun st=>ops.length - ax st 6)
  ⟨_,by first|exact (wS [1] @VA)|trace_state,0,Vg _,rfl⟩ ?_
 rintro _ ⟨k,hk,rfl⟩;by_cases hlt:k<ops.length
 .obtain ⟨o,ho1⟩:∃ o,o=ops[k]:=⟨_,rfl⟩;have hrow:(ops.map fun n=>[eI n])[k]?.getD []=[eI o]:=by rw [ho1];simp [hlt]
  have et:(l ++ (ops.take (k+1)).map fH).map bX=(l ++ (ops.take k).map fH).map bX ++ [[eI o,eI 0,eI 0,eI 0,eI 0,eI 0,eI 0]]:=by
   rw [Vk hlt,<- ho1];simp [fH]
  have htl:(l ++ (ops.take k).map fH).length<=110:=by
   rw [Vi,Vo,Vr];omega
  obtain ⟨T,hT⟩:∃ T,T=l ++ (ops.take k).map fH:=⟨_,rfl⟩;rw [<- hT] at et htl ⊢
  repeat' first|refine gf (kf @hrow @hlt) ?_|decide|refine sp ?_ ?_<;>intro _|(with_reducible apply And.intro)
  all_goals first
   | rfl
   | omega
   | exact rI (wS [2] (kf et hT)) ⟨k+1,by omega,rfl⟩
 .obtain rfl:k=ops.length:=by omega
  repeat' first|refine gf (kf @hlt @Vq) ?_|decide|refine sp ?_ ?_<;>intro _
  exact aY (by simp [ae.gc])
theorem pS (l:List ah) (ops:List Int) (hl:l.length<=100) (ho:ops.length<=10):aw Tryz.prog 14 [aR l,.sl 1 (ops.map fun n=>[eI n])] ⟨aR (l ++ ops.map fH),[],0⟩:=
 n7 61 ((k9 l ops hl ho).mono fun R h=>.inl h)
theorem Pk {m:bk} {c:List Int} {N:List Nd} {E:List (List pf)} (hE:gF m c) (hX:t9 m c N E N.length) (hN:N.length<=120) {l:List ah} (hx:∀ x ∈ l,x.ok) (hl:l.length<=64) (hrow:aZ (l.map ah.op) 0=some 1):aw Tryz.prog 8 [.agg (aW m),sI c,TX N E,aR l] ⟨.tup [ji (nu (aQ E) (Gw m c N) l),eI 0],[],0⟩ /\ (nu (aQ E) (Gw m c N) l).length=N.length:=by
 obtain ⟨hnx,hin,hnl⟩:=DX hX hE (by omega);obtain ⟨hgl,hml,hsl,hel,hal,hul,hrl,hsol,hol,hil⟩:=id hE.fit.sizes;have hc9:=hE.clen;have hEl:E.length=N.length:=hX.len
 have hrows:∀ r ∈ E,r.length<=1000000:=fun r hr=>by
  have:=hnx.row (r.map pf.dst) (List.mem_map_of_mem hr);rw [Vo] at this;omega
 have hb:∀ n ∈ N,n.z.cls.length<=1000000 /\ n.did.length<=1000000 /\ n.cnt.length<=1000000:=fun n hn=>by
  have h:=hX.bnd n hn;have h1:=h.z.cl;have h2:=h.did;have h3:=h.cnt;exact ⟨by omega,by omega,by omega⟩
 have hatl:∀ x,(Gw m c N x).length=N.length:=fun x=>by simp [Gw]
 have hlab:=uF m c 6 (N.map jR) (by kernel_rfl) E l (Gw m c N) hx (by omega) (by rw [Vo];omega) (by omega) hrows (fun _=>hnx) fun _ s _ hsx _ _=>by
  refine ⟨?_,by rw [hatl,Vo]⟩;have h:=FR m c N s.x (by omega) (by omega) (by omega) (by omega) hsx (by omega) (by omega) hb;have e:iA (Gw m c N s.x)=N.map fun n=>[eB (Ed m c n s.x)]:=by simp [Gw]
  rw [e];exact h
 rw [Vo] at hlab;have h0:l ≠ []:=by intro h;rw [h] at hrow;simp [aZ] at hrow
 have hc1:=Cn hrow hl h0;rw [jL,Vn ⟨(LG _).2 hc1,hEl.symm⟩,Gr hin (by rw [hnl];exact AC m c N) hrow hx hl fun x _ _=>by rw [hatl,hnl]] at hlab;exact ⟨hlab,by rw [(rz hrow fun x _ _=>by rw [hatl,hnl]).2,hnl]⟩
theorem f5 (l:List ah):∀ row ∈ l.map bX,∀ av ∈ row,av.plain:=by
 intro row hr av ha;obtain ⟨x,_,rfl⟩:=Vt.1 hr;simp [bX] at ha;rcases ha with rfl|rfl|rfl|rfl|rfl|rfl|rfl<;>trivial
theorem vW (m:bk) (l:List ah) (hx:∀ x ∈ l,x.ok) (hle:m.events.length<=9223372036854775807) (hp:∀ p ∈ m.stages,aI p.2) (hr:∀ p ∈ m.roles,aI p.2) (hi:∀ x ∈ m.inits,aI x) (hcd:CR m) (hgl:m.guards.length<=11000000) (hml:m.miles.length<=11000000) (hT:l.length+(m.guards.map fun g=>g.cond.length).sum+(m.miles.map fun g=>g.cond.length).sum<=1100000):aw Tryz.prog 4 [.agg (aW m),aR l] (val (.bool true)):=by
 refine aa ag Tryz.func4 rfl (by decide) Tryz.ntmps4 Tryz.results4 rfl (aL _) ?_;by_cases hl:l.length<=50
 .have d0:decide ((50:Int)<(l.length:Int))=false:=Vu (by omega);have hIt:=Nc l (by omega);have hCk:=CD (l.map ah.op) (by rw [Vo];omega);by_cases hk:lS (l.map ah.op)=0
  .have z0:(lS (l.map ah.op) != 0)=false:=(by simp [hk]);have z3:((0:Int) != 0)=false:=rfl;have z4:((0:Int) == 0)=true:=rfl;have hC:=uN m l hgl hml hT;rw [hk] at hCk
   repeat' first|refine gf (kf d0 z3) ?_|decide|refine sp ?_ ?_<;>intro _|refine cA hIt ?_|refine cA hCk ?_|refine cA hC ?_|fail
   refine tw (Mo m (fj m l) hp hr hi (C1 m hcd l hx)) ?_;rintro R (rfl | ⟨N,E,hE,hX,hN,rfl⟩)
   .refine ⟨ro,?_⟩
    repeat' first|refine gf @aB ?_|decide|refine sp ?_ ?_<;>intro _|((with_reducible first|apply ay (g:=5)|apply aP (g:=5));exact mh)
   .refine ⟨ro,?_⟩;have hln:N.length=E.length:=hX.len.symm;have hpos:=Pz hX;obtain ⟨hnx,hin,hnl⟩:=DX hX hE (by omega);obtain ⟨hrow,hl0,hl64⟩:=E2 hk;have hat:∀ x ∈ l,aC x.op=0 -> (Gw m (fj m l) N x).length=(aQ E).length:=fun x _ _=>by rw [hnl];simp [Gw]
    obtain ⟨p,hpe⟩:∃ p,p=nu (aQ E) (Gw m (fj m l) N) l:=⟨_,rfl⟩;have hpl:p.length=N.length:=(by rw [hpe,(rz hrow hat).2,hnl]);have okI:∀ o,aI o -> (fH o).ok:=fun o ho=>⟨ho,by simp [fH,aI],by simp [fH,aI],by simp [fH,aI],by simp [fH,aI],by simp [fH,aI],by simp [fH,aI]⟩
    have L:∀ ops:List Int,(∀ o ∈ ops,aC o=1) -> ops.length<=3 -> aw Tryz.prog 8 [.agg (aW m),sI (fj m l),TX N E,aR (l ++ ops.map fH)] ⟨.tup [ji (ops.foldl (fun a o=>gh (aQ E) o a) p),eI 0],[],0⟩ /\ (ops.foldl (fun a o=>gh (aQ E) o a) p).length=N.length:=fun ops ho hn=>by
     have hlen:(l ++ ops.map fH).length<=64:=by rw [Vi,Vo];omega
     obtain ⟨h1,s2⟩:=Pk hE hX hN (l:=l ++ ops.map fH) (fun x hx2=>by
      rcases Vp.1 hx2 with h|h
      .exact hx x h
      .obtain ⟨o,h1,rfl⟩:=Vt.1 h;refine okI o ?_;rcases uB (ho o h1) with h|h|h|h|h|h|h<;>(subst h;unfold aI;omega)) hlen (K7 hrow ho)
     rw [Ig hrow hat ho,<- hpe] at h1 s2;exact ⟨h1,s2⟩
    have LA:∀ o:Int,o=25 \/ o=26 -> aw Tryz.prog 8 [.agg (aW m),sI (fj m l),TX N E,aR ((fH 1 :: l) ++ [fH o])] ⟨.tup [ji (yC (aQ E) o (List.replicate (aQ E).length true) p),eI 0],[],0⟩:=fun o ho=>by
     have ho2:aC o=2:=by rcases ho with rfl | rfl<;>rfl
     have hlen:((fH 1 :: l) ++ [fH o]).length<=64:=by rw [Vi,VI,Vy];omega
     obtain ⟨h1,s2⟩:=Pk hE hX hN (l:=(fH 1 :: l) ++ [fH o]) (fun x hx2=>by
      rcases Vp.1 hx2 with h|h
      .rcases V8.1 h with rfl | h
       .exact okI 1 (by unfold aI;omega)
       .exact hx x h
      .rw [VF.1 h];exact okI o (by rcases ho with rfl | rfl<;>(unfold aI;omega))) hlen (CZ hrow ho2)
     have e1:Gw m (fj m l) N (fH 1)=List.replicate (aQ E).length true:=by rw [hnl];exact AC m _ N
     rw [Cf hrow hat ho2,e1,<- hpe] at h1;exact h1
    repeat' first|refine ge @aB ?_|decide|refine sp ?_ ?_<;>intro _
    refine af (fun st=>∃ k:Nat,k<=3 /\ st=⟨220,[(1,aR l),(2,.op 0 0 0),(5,sI (fj m l)),(6,.op 1 0 0),(9,.op 2 0 0),(10,eI (k:Int))],[(0,some (.box 32 (aW m))),(1,some (.box 39 [.sl 6 (N.map jR),.sl 1 (kd E)])),(2,some (.box 56 [eI 19,eI 20,eI 23,eI 22,eI 21,eI 24]))],3⟩) (fun st=>3 - ax st 10) ⟨_,(wR [0,1,3]),0,Vg _,rfl⟩ ?_;rintro _ ⟨k,hk3,rfl⟩;obtain rfl|rfl|rfl|rfl:k=0 \/ k=1 \/ k=2 \/ k=3:=by omega
    .obtain ⟨hA,hAl⟩:=L [19] (by decide) (by decide);obtain ⟨hB,hBl⟩:=L [15,20,15] (by decide) (by decide);have hT1:=pS l [19] (by omega) (by decide);have hT2:=pS l [15,20,15] (by omega) (by decide);have q0:decide (((0:Nat):Int)<3)=true:=rfl
     repeat' first|refine ge q0 ?_|decide|refine sp ?_ ?_<;>intro _
     refine ap [] [0,1,2,3,4,5,6,7] (.exec 8 (.exec 9 (.exec 10 (.take 11 (.take 12 (.take 13 (.exec 14 (.exec 15 .done)))))))) (by kernel_rfl) (by simp [ae.gc]) ?_;have p2:(0:Int)<((2:Nat):Int):=(by decide);have p3:(1:Int)<((2:Nat):Int):=(by decide);have e0:List.drop (Int.toNat 0 * 1) [eI 19,eI 20,eI 23,eI 22,eI 21,eI 24]=[eI 19,eI 20,eI 23,eI 22,eI 21,eI 24]:=rfl;have e1:List.drop (Int.toNat 1 * 1) [eI 19,eI 20,eI 23,eI 22,eI 21,eI 24]=[eI 20,eI 23,eI 22,eI 21,eI 24]:=rfl
     repeat' first|refine gf (kf p2 e0) ?_|decide|refine sp ?_ ?_<;>intro _
     refine ⟨rfl,?_⟩;refine ll [3] (R:=⟨aR (l ++ [19].map fH),[],0⟩) (by simp [AV.ltL,AV.lt]) (by rintro p hp;cases hp;simp [fO]) ?_ ?_ ?_
     .repeat' first|decide|refine go ?_
      exact hT1
     .repeat' first|decide|refine go ?_
      left;simp [dJ,eU,aM,aU]
     .repeat' first|refine ge @aB ?_|decide|refine sp ?_ ?_<;>intro _
      refine cZ hA (ro) ?_
      repeat' first|refine ge @aB ?_|decide|refine sp ?_ ?_<;>intro _
      refine ap [] [0,1,2,3,4,5,6,7] (.exec 8 (.exec 9 (.exec 10 (.take 11 (.take 12 (.take 13 (.exec 14 (.exec 15 .done)))))))) (by kernel_rfl) (by simp [ae.gc]) ?_
      repeat' first|refine gf (kf p2 (kf p3 (kf e0 e1))) ?_|decide|refine sp ?_ ?_<;>intro _
      refine ⟨by decide,rfl,?_⟩;refine ll [4] (R:=⟨aR (l ++ [15,20,15].map fH),[],0⟩) (by simp [AV.ltL,AV.lt]) (by rintro p hp;cases hp;simp [fO]) ?_ ?_ ?_
      .repeat' first|decide|refine go ?_
       exact hT2
      .repeat' first|decide|refine go ?_
       left;simp [dJ,eU,aM,aU]
      .repeat' first|refine ge @aB ?_|decide|refine sp ?_ ?_<;>intro _
       refine cZ hB (ro) ?_
       have eAB:[(15:Int),20,15].foldl (fun a o=>gh (aQ E) o a) p=[(19:Int)].foldl (fun a o=>gh (aQ E) o a) p:=by
        simp only [Xc,Wr];exact Pd hin (by rw [hpl,hnl])
       rw [eAB];obtain ⟨A,hA2⟩:∃ A,A=[(19:Int)].foldl (fun a o=>gh (aQ E) o a) p:=⟨_,rfl⟩;rw [<- hA2] at hAl ⊢;have hS:=lR A (by omega);have z5:(!true)=false:=rfl;have r1:IntKind.i64.wrap (((0:Nat):Int)+1)=((1:Nat):Int):=(by decide)
       repeat' first|refine gf (kf @aB (kf z3 z5)) ?_|decide|refine sp ?_ ?_<;>intro _|refine cA hS ?_|fail
       all_goals exact rI (wS [0,1,2] r1) ⟨1,by omega,rfl⟩
    .obtain ⟨hA,hAl⟩:=L [23] (by decide) (by decide);obtain ⟨hB,hBl⟩:=L [15,22,15] (by decide) (by decide);have hT1:=pS l [23] (by omega) (by decide);have hT2:=pS l [15,22,15] (by omega) (by decide);have q0:decide (((1:Nat):Int)<3)=true:=rfl
     repeat' first|refine ge q0 ?_|decide|refine sp ?_ ?_<;>intro _
     refine ap [] [0,1,2,3,4,5,6,7] (.exec 8 (.exec 9 (.exec 10 (.take 11 (.take 12 (.take 13 (.exec 14 (.exec 15 .done)))))))) (by kernel_rfl) (by simp [ae.gc]) ?_;have p2:(0:Int)<((2:Nat):Int):=(by decide);have p3:(1:Int)<((2:Nat):Int):=(by decide);have e0:List.drop (2+Int.toNat 0 * 1) [eI 19,eI 20,eI 23,eI 22,eI 21,eI 24]=[eI 23,eI 22,eI 21,eI 24]:=rfl;have e1:List.drop (2+Int.toNat 1 * 1) [eI 19,eI 20,eI 23,eI 22,eI 21,eI 24]=[eI 22,eI 21,eI 24]:=rfl
     repeat' first|refine gf (kf p2 e0) ?_|decide|refine sp ?_ ?_<;>intro _
     refine ⟨rfl,?_⟩;refine ll [3] (R:=⟨aR (l ++ [23].map fH),[],0⟩) (by simp [AV.ltL,AV.lt]) (by rintro p hp;cases hp;simp [fO]) ?_ ?_ ?_
     .repeat' first|decide|refine go ?_
      exact hT1
     .repeat' first|decide|refine go ?_
      left;simp [dJ,eU,aM,aU]
     .repeat' first|refine ge @aB ?_|decide|refine sp ?_ ?_<;>intro _
      refine cZ hA (ro) ?_
      repeat' first|refine ge @aB ?_|decide|refine sp ?_ ?_<;>intro _
      refine ap [] [0,1,2,3,4,5,6,7] (.exec 8 (.exec 9 (.exec 10 (.take 11 (.take 12 (.take 13 (.exec 14 (.exec 15 .done)))))))) (by kernel_rfl) (by simp [ae.gc]) ?_
      repeat' first|refine gf (kf p2 (kf p3 (kf e0 e1))) ?_|decide|refine sp ?_ ?_<;>intro _
      refine ⟨by decide,rfl,?_⟩;refine ll [4] (R:=⟨aR (l ++ [15,22,15].map fH),[],0⟩) (by simp [AV.ltL,AV.lt]) (by rintro p hp;cases hp;simp [fO]) ?_ ?_ ?_
      .repeat' first|decide|refine go ?_
       exact hT2
      .repeat' first|decide|refine go ?_
       left;simp [dJ,eU,aM,aU]
      .repeat' first|refine ge @aB ?_|decide|refine sp ?_ ?_<;>intro _
       refine cZ hB (ro) ?_
       have eAB:[(15:Int),22,15].foldl (fun a o=>gh (aQ E) o a) p=[(23:Int)].foldl (fun a o=>gh (aQ E) o a) p:=by
        simp only [Xc,Wr];rfl
       rw [eAB];obtain ⟨A,hA2⟩:∃ A,A=[(23:Int)].foldl (fun a o=>gh (aQ E) o a) p:=⟨_,rfl⟩;rw [<- hA2] at hAl ⊢;have hS:=lR A (by omega);have z5:(!true)=false:=rfl;have r1:IntKind.i64.wrap (((1:Nat):Int)+1)=((2:Nat):Int):=(by decide)
       repeat' first|refine gf (kf @aB (kf z3 z5)) ?_|decide|refine sp ?_ ?_<;>intro _|refine cA hS ?_|fail
       all_goals exact rI (wS [0,1,2] r1) ⟨2,by omega,rfl⟩
    .obtain ⟨hA,hAl⟩:=L [21] (by decide) (by decide);obtain ⟨hB,hBl⟩:=L [15,24,15] (by decide) (by decide);have hT1:=pS l [21] (by omega) (by decide);have hT2:=pS l [15,24,15] (by omega) (by decide);have q0:decide (((2:Nat):Int)<3)=true:=rfl
     repeat' first|refine ge q0 ?_|decide|refine sp ?_ ?_<;>intro _
     refine ap [] [0,1,2,3,4,5,6,7] (.exec 8 (.exec 9 (.exec 10 (.take 11 (.take 12 (.take 13 (.exec 14 (.exec 15 .done)))))))) (by kernel_rfl) (by simp [ae.gc]) ?_;have p2:(0:Int)<((2:Nat):Int):=(by decide);have p3:(1:Int)<((2:Nat):Int):=(by decide);have e0:List.drop (4+Int.toNat 0 * 1) [eI 19,eI 20,eI 23,eI 22,eI 21,eI 24]=[eI 21,eI 24]:=rfl;have e1:List.drop (4+Int.toNat 1 * 1) [eI 19,eI 20,eI 23,eI 22,eI 21,eI 24]=[eI 24]:=rfl
     repeat' first|refine gf (kf p2 e0) ?_|decide|refine sp ?_ ?_<;>intro _
     refine ⟨rfl,?_⟩;refine ll [3] (R:=⟨aR (l ++ [21].map fH),[],0⟩) (by simp [AV.ltL,AV.lt]) (by rintro p hp;cases hp;simp [fO]) ?_ ?_ ?_
     .repeat' first|decide|refine go ?_
      exact hT1
     .repeat' first|decide|refine go ?_
      left;simp [dJ,eU,aM,aU]
     .repeat' first|refine ge @aB ?_|decide|refine sp ?_ ?_<;>intro _
      refine cZ hA (ro) ?_
      repeat' first|refine ge @aB ?_|decide|refine sp ?_ ?_<;>intro _
      refine ap [] [0,1,2,3,4,5,6,7] (.exec 8 (.exec 9 (.exec 10 (.take 11 (.take 12 (.take 13 (.exec 14 (.exec 15 .done)))))))) (by kernel_rfl) (by simp [ae.gc]) ?_
      repeat' first|refine gf (kf p2 (kf p3 (kf e0 e1))) ?_|decide|refine sp ?_ ?_<;>intro _
      refine ⟨by decide,rfl,?_⟩;refine ll [4] (R:=⟨aR (l ++ [15,24,15].map fH),[],0⟩) (by simp [AV.ltL,AV.lt]) (by rintro p hp;cases hp;simp [fO]) ?_ ?_ ?_
      .repeat' first|decide|refine go ?_
       exact hT2
      .repeat' first|decide|refine go ?_
       left;simp [dJ,eU,aM,aU]
      .repeat' first|refine ge @aB ?_|decide|refine sp ?_ ?_<;>intro _
       refine cZ hB (ro) ?_
       have eAB:[(15:Int),24,15].foldl (fun a o=>gh (aQ E) o a) p=[(21:Int)].foldl (fun a o=>gh (aQ E) o a) p:=by
        simp only [Xc,Wr];exact Jc hin (by rw [hpl,hnl])
       rw [eAB];obtain ⟨A,hA2⟩:∃ A,A=[(21:Int)].foldl (fun a o=>gh (aQ E) o a) p:=⟨_,rfl⟩;rw [<- hA2] at hAl ⊢;have hS:=lR A (by omega);have z5:(!true)=false:=rfl;have r1:IntKind.i64.wrap (((2:Nat):Int)+1)=((3:Nat):Int):=(by decide)
       repeat' first|refine gf (kf @aB (kf z3 z5)) ?_|decide|refine sp ?_ ?_<;>intro _|refine cA hS ?_|fail
       all_goals exact rI (wS [0,1,2] r1) ⟨3,by omega,rfl⟩
    .have q0:decide (((3:Nat):Int)<3)=false:=rfl;have hA:=LA 25 (.inl rfl);obtain ⟨hB,hBl⟩:=L [21] (by decide) (by decide);have hX2:=LA 26 (.inr rfl);obtain ⟨hY,hYl⟩:=L [22] (by decide) (by decide);have hP:=(L [] (by simp) (by decide)).1;simp only [VP,Wn,Wr] at hP;obtain ⟨vA,hvA⟩:∃ v,v=yC (aQ E) 25 (List.replicate (aQ E).length true) p:=⟨_,rfl⟩;have eA:[(21:Int)].foldl (fun a o=>gh (aQ E) o a) p=vA:=by rw [hvA];rfl
     obtain ⟨vX,hvX⟩:∃ v,v=yC (aQ E) 26 (List.replicate (aQ E).length true) p:=⟨_,rfl⟩;have eX:[(22:Int)].foldl (fun a o=>gh (aQ E) o a) p=vX:=by rw [hvX];rfl
     rw [<- hvA] at hA;rw [eA] at hB hBl;rw [<- hvX] at hX2;rw [eX] at hY hYl;have hSA:=lR vA (by omega);have hSX:=lR vX (by omega);have z5:(!true)=false:=rfl;have hlc:(fH 1 :: l).length<=100:=by rw [VI];omega
     have hT1:=k9 (fH 1 :: l) [25] hlc (by decide);have hT2:=k9 l [21] (by omega) (by decide);have hT3:=k9 (fH 1 :: l) [26] hlc (by decide);have hT4:=k9 l [22] (by omega) (by decide)
     repeat' first|refine ge q0 ?_|decide|refine sp ?_ ?_<;>intro _
     refine ⟨rfl,⟨by omega,by omega⟩,?_⟩;refine ap [] [0,1,2,3] (.exec 4 (.exec 5 (.exec 6 (.take 7 (.take 8 (.take 9 (.exec 10 (.exec 11 .done)))))))) (by kernel_rfl) (by simp [ae.gc]) ?_
     repeat' first|refine gq ?_|decide|refine sp ?_ ?_<;>intro _
     refine ⟨rfl,?_⟩;refine dM (e:=61) (sz:=7) (rows:=((fH 1 :: l) ++ [25].map fH).map bX) ?_ (.inr (f5 _)) ?_
     .repeat' first|decide|refine go ?_
      exact hT1
     repeat' first|refine ge @aB ?_|decide|refine sp ?_ ?_<;>intro _
     refine ll [6] (R:=⟨.tup [ji vA,eI 0],[],0⟩) (by simp [AV.ltL,AV.lt]) (by rintro p hp;cases hp;simp [fO]) ?_ ?_ ?_
     .repeat' first|decide|refine go ?_
      exact hA
     .repeat' first|decide|refine go ?_
      left;simp [dJ,eU,aM,aU]
     repeat' first|refine ge @aB ?_|decide|refine sp ?_ ?_<;>intro _
     refine ap [] [0,1,2,3] (.exec 4 (.exec 5 (.exec 6 (.take 7 (.take 8 (.take 9 (.exec 10 (.exec 11 .done)))))))) (by kernel_rfl) (by simp [ae.gc]) ?_
     repeat' first|refine gq ?_|decide|refine sp ?_ ?_<;>intro _
     refine ⟨rfl,?_⟩;refine dM (e:=61) (sz:=7) (rows:=(l ++ [21].map fH).map bX) ?_ (.inr (f5 _)) ?_
     .repeat' first|decide|refine go ?_
      exact hT2
     repeat' first|refine ge @aB ?_|decide|refine sp ?_ ?_<;>intro _
     refine ll [8] (R:=⟨.tup [ji vA,eI 0],[],0⟩) (by simp [AV.ltL,AV.lt]) (by rintro p hp;cases hp;simp [fO]) ?_ ?_ ?_
     .repeat' first|decide|refine go ?_
      exact hB
     .repeat' first|decide|refine go ?_
      left;simp [dJ,eU,aM,aU]
     repeat' first|refine ge @aB ?_|decide|refine sp ?_ ?_<;>intro _
     refine ap [] [0,1,2,3] (.exec 4 (.exec 5 (.exec 6 (.take 7 (.take 8 (.take 9 (.exec 10 (.exec 11 .done)))))))) (by kernel_rfl) (by simp [ae.gc]) ?_
     repeat' first|refine gq ?_|decide|refine sp ?_ ?_<;>intro _
     refine ⟨rfl,?_⟩;refine dM (e:=61) (sz:=7) (rows:=((fH 1 :: l) ++ [26].map fH).map bX) ?_ (.inr (f5 _)) ?_
     .repeat' first|decide|refine go ?_
      exact hT3
     repeat' first|refine ge @aB ?_|decide|refine sp ?_ ?_<;>intro _
     refine ll [10] (R:=⟨.tup [ji vX,eI 0],[],0⟩) (by simp [AV.ltL,AV.lt]) (by rintro p hp;cases hp;simp [fO]) ?_ ?_ ?_
     .repeat' first|decide|refine go ?_
      exact hX2
     .repeat' first|decide|refine go ?_
      left;simp [dJ,eU,aM,aU]
     repeat' first|refine ge @aB ?_|decide|refine sp ?_ ?_<;>intro _
     refine ap [] [0,1,2,3] (.exec 4 (.exec 5 (.exec 6 (.take 7 (.take 8 (.take 9 (.exec 10 (.exec 11 .done)))))))) (by kernel_rfl) (by simp [ae.gc]) ?_
     repeat' first|refine gq ?_|decide|refine sp ?_ ?_<;>intro _
     refine ⟨rfl,?_⟩;refine dM (e:=61) (sz:=7) (rows:=(l ++ [22].map fH).map bX) ?_ (.inr (f5 _)) ?_
     .repeat' first|decide|refine go ?_
      exact hT4
     repeat' first|refine ge @aB ?_|decide|refine sp ?_ ?_<;>intro _
     refine ll [12] (R:=⟨.tup [ji vX,eI 0],[],0⟩) (by simp [AV.ltL,AV.lt]) (by rintro p hp;cases hp;simp [fO]) ?_ ?_ ?_
     .repeat' first|decide|refine go ?_
      exact hY
     .repeat' first|decide|refine go ?_
      left;simp [dJ,eU,aM,aU]
     repeat' first|refine ge (kf @aB z3) ?_|decide|refine sp ?_ ?_<;>intro _
     refine ay hSA ?_
     repeat' first|refine ge z5 ?_|decide|refine sp ?_ ?_<;>intro _
     refine ay hSX ?_
     repeat' first|refine ge z5 ?_|decide|refine sp ?_ ?_<;>intro _
     refine cZ hP (ro) ?_
     repeat' first|refine ge @aB ?_|decide|refine sp ?_ ?_<;>intro _
     obtain ⟨hS,hSl⟩:=L [23] (by decide) (by decide);obtain ⟨hV,hVl⟩:=L [23,19] (by decide) (by decide);have hT5:=k9 l [23] (by omega) (by decide);have hT6:=k9 l [23,19] (by omega) (by decide);have hag:=fun i (hi:i<(aQ E).length)=>QL (p:=p) hin (by rw [hpl,hnl]) hi;have e5:[(23:Int)].foldl (fun a o=>gh (aQ E) o a) p=gh (aQ E) 23 p:=rfl;have e6:[(23:Int),19].foldl (fun a o=>gh (aQ E) o a) p=Hc (aQ E) (gh (aQ E) 23 p):=rfl;rw [e5] at hS hSl;rw [e6] at hV hVl;obtain ⟨V,hV2⟩:∃ V,V=Hc (aQ E) (gh (aQ E) 23 p):=⟨_,rfl⟩;rw [<- hV2] at hV hVl;simp only [<- hV2] at hag;obtain ⟨S,hS2⟩:∃ S,S=gh (aQ E) 23 p:=⟨_,rfl⟩;rw [<- hS2] at hS hSl;simp only [<- hS2] at hag;refine ap [] [0,1,2,3] (.exec 4 (.exec 5 (.exec 6 (.take 7 (.take 8 (.take 9 (.exec 10 (.exec 11 .done)))))))) (by kernel_rfl) (by simp [ae.gc]) ?_
     repeat' first|refine gq ?_|decide|refine sp ?_ ?_<;>intro _
     refine ⟨rfl,?_⟩;refine dM (e:=61) (sz:=7) (rows:=(l ++ [23].map fH).map bX) ?_ (.inr (f5 _)) ?_
     .repeat' first|decide|refine go ?_
      exact hT5
     repeat' first|refine ge @aB ?_|decide|refine sp ?_ ?_<;>intro _
     refine ll [14] (R:=⟨.tup [ji S,eI 0],[],0⟩) (by simp [AV.ltL,AV.lt]) (by rintro p hp;cases hp;simp [fO]) ?_ ?_ ?_
     .repeat' first|decide|refine go ?_
      exact hS
     .repeat' first|decide|refine go ?_
      left;simp [dJ,eU,aM,aU]
     repeat' first|refine ge @aB ?_|decide|refine sp ?_ ?_<;>intro _
     refine ap [] [0,1,2,3] (.exec 4 (.exec 5 (.exec 6 (.take 7 (.take 8 (.take 9 (.exec 10 (.exec 11 .done)))))))) (by kernel_rfl) (by simp [ae.gc]) ?_
     repeat' first|refine gq ?_|decide|refine sp ?_ ?_<;>intro _
     refine ⟨rfl,?_⟩;refine dM (e:=61) (sz:=7) (rows:=(l ++ [23,19].map fH).map bX) ?_ (.inr (f5 _)) ?_
     .repeat' first|decide|refine go ?_
      exact hT6
     repeat' first|refine ge @aB ?_|decide|refine sp ?_ ?_<;>intro _
     refine ll [16] (R:=⟨.tup [ji V,eI 0],[],0⟩) (by simp [AV.ltL,AV.lt]) (by rintro p hp;cases hp;simp [fO]) ?_ ?_ ?_
     .repeat' first|decide|refine go ?_
      exact hV
     .repeat' first|decide|refine go ?_
      left;simp [dJ,eU,aM,aU]
     repeat' first|refine ge @aB ?_|decide|refine sp ?_ ?_<;>intro _
     refine af (fun st=>∃ k:Nat,k<=S.length /\ st=⟨220,[(24,ji p),(26,ji S),(28,ji V),(30,eI (k:Int))],[],0⟩) (fun st=>S.length - ax st 30) ⟨_,wC,0,Vg _,rfl⟩ ?_;rintro _ ⟨k,hk2,rfl⟩;by_cases hlt:k<S.length
     .have k1:k<p.length:=(by omega);have k2:k<V.length:=(by omega);have d1:decide ((p.length:Int)<=(k:Int))=false:=Vu (by omega);have d2:decide ((V.length:Int)<=(k:Int))=false:=Vu (by omega);have r1:(iA p)[k]?.getD []=[eB (p.getD k false)]:=(by simp [List.getD,k1]);have r2:(iA S)[k]?.getD []=[eB (S.getD k false)]:=(by simp [List.getD,hlt]);have r3:(iA V)[k]?.getD []=[eB (V.getD k false)]:=(by simp [List.getD,k2]);have ha:=hag k (by omega);obtain ⟨u,hu⟩:∃ u,u=p.getD k false:=⟨_,rfl⟩;obtain ⟨v,hv⟩:∃ v,v=V.getD k false:=⟨_,rfl⟩;rw [<- hu,<- hv] at ha;rw [ha] at r2;rw [<- hu] at r1;rw [<- hv] at r3;have b0:(!(false == false))=false:=rfl;have b1:(!(true == true))=false:=rfl;have d3:decide (p.length<=k)=false:=Vu (by omega);have d4:decide (V.length<=k)=false:=Vu (by omega);cases u<;>cases v<;>simp only [Bool.and_true,Bool.and_false,V4,Wf] at r2
      all_goals
       repeat' first|refine gf (kf @hlt (kf k1 (kf k2 (kf d1 (kf d2 (kf d3 (kf d4 (kf r1 (kf r2 (kf r3 (kf b0 b1))))))))))) ?_|decide|refine sp ?_ ?_<;>intro _
       all_goals exact rI wC ⟨k+1,by omega,rfl⟩
     .obtain rfl:k=S.length:=by omega
      repeat' first|refine gf @hlt ?_|decide|refine sp ?_ ?_<;>intro _|((with_reducible first|apply ay (g:=5)|apply aP (g:=5));exact mh)
  .have z0:(lS (l.map ah.op) != 0)=true:=by simpa using hk
   repeat' first|refine gf (kf d0 z0) ?_|decide|refine sp ?_ ?_<;>intro _|refine cA hIt ?_|refine cA hCk ?_|((with_reducible first|apply ay (g:=5)|apply aP (g:=5));exact mh)
 .have d0:decide ((50:Int)<(l.length:Int))=true:=VC (by omega)
  repeat' first|refine gf d0 ?_|decide|refine sp ?_ ?_<;>intro _|((with_reducible first|apply ay (g:=5)|apply aP (g:=5));exact mh)
end
end
section
section
open Go.RowKit Go.ChangeShapes Go.WideShapes Go.Deep
theorem ID {H:Type} (d:DataW H):1<=Rows.uptoBulk d:=by
 cases d with
 | lit l=>cases l<;>simp [Rows.uptoBulk]
 | nil=>simp [Rows.uptoBulk]
 | ptr d=>simp [Rows.uptoBulk]
 | slice elems spare=>simp [Rows.uptoBulk]
 | agg parts=>simp [Rows.uptoBulk]
 | iface t d=>simp [Rows.uptoBulk]
 | map entries=>simp [Rows.uptoBulk]
 | held h=>simp [Rows.uptoBulk]
theorem vq {H:Type} {l:List (DataW H)}:∀ {i:Nat} {d:DataW H},l[i]? = some d -> Rows.uptoBulk d<=Rows.uptoBulkAll l:=by
 induction l with
 | nil=>intro i d h;simp at h
 | cons x r ih=>
  intro i d h;simp only [Rows.uptoBulkAll]
  cases i with
  | zero=>simp at h;subst h;omega
  | succ i=>have:=ih (i:=i) (d:=d) (by simpa using h);omega
theorem H6 {H:Type} {l:List (DataW H)}:∀ {i j:Nat} {d e:DataW H},i<j -> l[i]? = some d -> l[j]? = some e -> Rows.uptoBulk d+Rows.uptoBulk e<=Rows.uptoBulkAll l:=by
 induction l with
 | nil=>intro i j d e _ h;simp at h
 | cons x r ih=>
  intro i j d e hij h h2;simp only [Rows.uptoBulkAll]
  cases j with
  | zero=>omega
  | succ j=>
   have h2':r[j]? = some e:=by simpa using h2
   cases i with
   | zero=>simp at h;subst h;have:=vq h2';omega
   | succ i=>have:=ih (i:=i) (j:=j) (by omega) (by simpa using h) h2';omega
def qy {α:Type} (P:Program) (t:TypeId) (r:fS α) (sz:α -> Nat):Prop:=∀ (H:Type) (enc:TypeId × Value -> H) (w:World) (S:Nat -> Prop) (fuel:Nat) (cs:List Value) (x:DataW H × List MemPlace) (a:α),
 DataW.trod enc P w 0 (fun _=>true) true fuel t cs=some x -> r.at_ w S cs a -> sz a<=Rows.uptoBulk x.1
theorem EY {α:Type} (P:Program) (t:TypeId) (r:fS α):qy P t r fun _=>1:=fun _ _ _ _ _ _ x _ _ _=>ID x.1
theorem uJ {α β:Type} {P:Program} {t:TypeId} {fs:Array Field} {r:fS α} {s:fS β} (ht:P.underlying t=some (.struct fs)) (i:Nat) (f:Field) (hi:fs[i]? = some f) (sz:β -> Nat) (hb:qy P f.type s sz)
  (off n:Nat) (ho:f.offset=off) (hc:P.cellsOf f.type=n) (g:α -> β) (hg:∀ w S cs a,r.at_ w S cs a -> s.at_ w S ((cs.drop off).take n) (g a)):qy P t r fun a=>sz (g a)+1:=by
 subst ho hc;intro H enc w S fuel cs x a hx ha;obtain ⟨xs,n,_,rfl,hl,hlen,hf⟩:=DataW.trod_struct ht hx;have h1:=hf i f hi;have hil:i<xs.length:=by rw [hlen];exact (VJ.1 hi).1
 rw [f4 hil] at h1;have h2:=hb H enc w S n _ _ _ h1 (hg w S cs a ha);have h3:(xs.map (·.1))[i]? = some xs[i].1:=by simp [hil]
 have h4:=vq h3;simp only [Rows.uptoBulk];omega
theorem qR {H α:Type} (sz:α -> Nat):∀ (ds:List (DataW H)) (l:List α),ds.length=l.length -> (∀ (i:Nat) (h:i<ds.length) (h2:i<l.length),sz l[i]<=Rows.uptoBulk ds[i]) -> (l.map sz).sum<=Rows.uptoBulkAll ds
 | [],[],_,_=>by simp
 | d :: ds,x :: l,h,h2=>by
  have a1:=h2 0 (by simp) (by simp)
  have a2:=qR sz ds l (by simpa using h) fun i hi hi2=>by
   have:=h2 (i+1) (by simp;omega) (by simp;omega);simpa using this
  simp only [List.getElem_cons_zero] at a1;simp only [VY,XN,Rows.uptoBulkAll];omega
 | [],_ :: _,h,_=>by simp at h
 | _ :: _,[],h,_=>by simp at h
theorem l6 {α:Type} {P:Program} {t e:TypeId} {r:fS α} {sz:α -> Nat} (ht:P.underlying t=some (.slice e)) (hs:P.cellsOf e=r.size) (hp:0<r.size) (hb:qy P e r sz):qy P t (aF r) fun l=>(l.map sz).sum+1:=by
 intro H enc w S fuel cs x l hx hl;obtain ⟨A,c,rfl,hlc,hcm,hrow⟩:∃ A c,cs=[.slice A l.length c] /\ l.length<=c /\ c<=9223372036854775807 /\ (0<l.length -> ∃ b o,A=some ⟨b,o,none⟩ /\ S b /\ tL r w S b o l):=hl;rcases DataW.trod_slice ht hx with ⟨h1,rfl⟩|⟨a,len,cap,elems,rest,n,_,h1,rfl,hbase,hlen,hcap,hel,hi,_⟩
 .have:l.length=0:=by simp at h1;omega
  obtain rfl:l=[]:=WL.1 this;simp [Rows.uptoBulk]
 .simp only [List.cons.injEq,Value.slice.injEq,and_true] at h1;obtain ⟨rfl,rfl,rfl⟩:=h1
  have key:=qR sz (elems.map (·.1)) l (by simpa using hel) fun i h1 h2=>by
   have hi1:=hi i h2;have hie:i<elems.length:=(by omega);rw [f4 hie] at hi1;obtain ⟨b,o,e0,hSb,hrw⟩:=hrow (by omega);cases e0;obtain ⟨cs',hc1,hc2⟩:=hrw i h2;rw [Option.bind_eq_some_iff] at hi1;obtain ⟨cs2,hw,ht2⟩:=hi1;obtain ⟨_,hlen2,hcell⟩:=World.cells?_some hw
   have he:cs2=cs':=by
    have hl1:=r.len hc2;apply V2;intro j;by_cases hj:j<P.cellsOf e
    .have hj1:j<cs'.length:=by rw [hl1,<- hs];exact hj
     have hj2:j<cs2.length:=by rw [hlen2];exact hj
     have q1:=hc1 j cs'[j] (f4 hj1);have q2:=hcell j hj;rw [<- q2];rw [f4 hj1,<- q1,Go.Deep.add_add,hs]
     congr 1
     simp [Addr.add,Wx]
    .rw [Vs (by omega),Vs (by rw [hl1];omega)]
   subst he;have:=hb H enc w S n _ _ _ ht2 hc2;simpa using this
  simp only [Rows.uptoBulk];omega
theorem sN {α:Type}:∀ l:List α,(l.map fun _=>1).sum=l.length
 | []=>rfl
 | _ :: l=>by simp only [VY,XN,VI,sN l];omega
theorem nB:qy Tryz.prog 33 (aF fC) fun l=>(l.map fun _=>1).sum+1:=l6 Tryz.underlying33 (by kernel_rfl) (by decide) (EY _ _ _)
theorem Bw:qy Tryz.prog 67 Ts fun g=>((g.cond.map fun _=>1).sum+1)+1:=
 uJ (s:=aF fC) Tryz.underlying67 2 _ rfl (fun l=>(l.map fun _=>1).sum+1) nB 2 1 (by kernel_rfl) (by kernel_rfl) Gd.cond fun w S cs a h=>by
  obtain ⟨cv,rfl,h1,_⟩:=h;exact h1
theorem EA:qy Tryz.prog 69 Tk fun g=>((g.cond.map fun _=>1).sum+1)+1:=
 uJ (s:=aF fC) Tryz.underlying69 3 _ rfl (fun l=>(l.map fun _=>1).sum+1) nB 3 1 (by kernel_rfl) (by kernel_rfl) Ml.cond fun w S cs a h=>by
  obtain ⟨cv,rfl,h1,_⟩:=h;exact h1
theorem IL {H:Type} {enc:TypeId × Value -> H} {w:World} {fuel:Nat} {V:MV} {m:bk} {x:DataW H × List MemPlace} (h:DataW.trod enc Tryz.prog w 0 (fun _=>true) true fuel 32 V.cells.toList=some x) (hm:yK w V m) :
  (m.guards.map fun g=>((g.cond.map fun _=>1).sum+1)+1).sum+(m.miles.map fun g=>((g.cond.map fun _=>1).sum+1)+1).sum<=Rows.uptoBulk x.1:=by
 obtain ⟨xs,n,_,rfl,hl,hlen,hf⟩:=DataW.trod_struct Tryz.underlying32 h;have hl10:xs.length=10:=hlen;have h6:=hf 6 _ rfl;have h7:=hf 7 _ rfl;rw [f4 (by omega)] at h6 h7;have b6:=l6 (t:=27) Tryz.underlying27 (by kernel_rfl) (by decide) Bw H enc w (fun b=>b<w.heap.size) n [V.guards] xs[6] m.guards h6 hm.guards;have b7:=l6 (t:=28) Tryz.underlying28 (by kernel_rfl) (by decide) EA H enc w (fun b=>b<w.heap.size) n [V.miles] xs[7] m.miles h7 hm.miles;have b:=H6 (l:=xs.map (·.1)) (i:=6) (j:=7) (by omega) (by rw [Ve,f4 (by omega)];rfl) (by rw [Ve,f4 (by omega)];rfl);simp only [] at b6 b7 b;simp only [Rows.uptoBulk];omega
theorem Da {H:Type} {enc:TypeId × Value -> H} {w:World} {S:Nat -> Prop} {fuel:Nat} {v:Value} {l:List ah} {x:DataW H × List MemPlace} (h:DataW.trod enc Tryz.prog w 0 (fun _=>true) true fuel 33 [v]=some x) (hl:(aF fC).one w S v l):l.length<=Rows.uptoBulk x.1:=by
 have:(l.map fun _=>1).sum+1<=Rows.uptoBulk x.1:=nB H enc w S fuel [v] x l h hl;rw [sN] at this;omega
theorem wF {α:Type} (f:α -> Nat):∀ l:List α,(l.map fun x=>(f x+1)+1).sum=(l.map f).sum+2 * l.length
 | []=>rfl
 | _ :: l=>by simp only [VY,XN,VI,wF f l];omega
theorem sf {H:Type} {enc:TypeId × Value -> H} {w:World} {S:Nat -> Prop} {f1 f2:Nat} {V:MV} {m:bk} {v:Value} {l:List ah} {x y:DataW H × List MemPlace} (h1:DataW.trod enc Tryz.prog w 0 (fun _=>true) true f1 32 V.cells.toList=some x) (hm:yK w V m)
  (h2:DataW.trod enc Tryz.prog w 0 (fun _=>true) true f2 33 [v]=some y) (hl:(aF fC).one w S v l) (hk:Rows.uptoSmall H [x.1,y.1]=true) :
  m.guards.length<=11000000 /\ m.miles.length<=11000000 /\ l.length+(m.guards.map fun g=>g.cond.length).sum+(m.miles.map fun g=>g.cond.length).sum<=1100000:=by
 have hb:Rows.uptoBulkAll [x.1,y.1]<=1048576:=of_decide_eq_true hk;have a:=IL h1 hm;have b:=Da h2 hl;simp only [sN] at a;rw [wF (fun g:Gd=>g.cond.length),wF (fun g:Ml=>g.cond.length)] at a;simp only [Rows.uptoBulkAll] at hb;omega
end
end
end Go.Proofs.YtmmoidfcfjklaaaGreat
