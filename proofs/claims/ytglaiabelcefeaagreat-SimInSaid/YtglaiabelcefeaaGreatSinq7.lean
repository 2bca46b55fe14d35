/-
  Parts of the proof: Sinp15, Sinp16, Sinp17, Sinp18.
-/
import Derived.Test.YtglaiabelcefeaaGreatSinq6
set_option linter.unusedVariables false
set_option linter.unusedSimpArgs false
set_option linter.defProp false
set_option maxRecDepth 100000
set_option maxHeartbeats 16000000
namespace Go.Proofs.YtglaiabelcefeaaGreat
open Go.RowKit
section
section
theorem M0{vs:Array Value}{a:AV}(hn:vs.size=[a].length):∃x,vs = #[x]:=⟨vs[0]'(by simp at hn;omega),by
 apply XB (by simpa using hn);intro i h1 h2;simp at h2;subst h2;rfl⟩
def OB(e:TypeId)(sz:Nat)(rows:List (List AV))(R:cu):Prop:=R=gl e sz rows\/R=⟨.sl sz rows,[],0⟩
theorem wl{P:Program}{f:FuncId}{args:List AV}(e:TypeId){sz:Nat}{rows:List (List AV)}(h:dp P f args (OB e sz rows)):am P f args ⟨.sl sz rows,[],0⟩:=
 h.tree (by simp[AV.lt]) fun R hR=>by
  rcases hR with rfl|rfl
  .refine ⟨[0],?_⟩;have e:((gl e sz rows).frzs [0]).r=.sl sz rows:=(by simp[cu.frzs,cu.frz,gl,ae.gc,AV.frz]);rw[e];exact⟨trivial,.one (.one (.refl _))⟩
  .exact ⟨[],trivial,.one (.one (.refl _))⟩
theorem FB(x:Int)(O:List Int)(m:Nat):(gF x (O.take m)).1.length<=m+1:=by
 have:=zB x (O.take m);have h2:=List.length_take_le m O;split at this<;>omega
theorem xw(l:List Int)(hl:l.length<=5000000):am Tryz.prog 21 [sI l] (gl 2 1 ((aR l).map fun n=>[eI n])):=by
 refine aa ag Tryz.func21 rfl (by decide) Tryz.ntmps21 Tryz.results21 rfl (cW _ _ _) ?_
 repeat' first|refine go ?_|decide|refine sp ?_ ?_<;>intro _
 refine af (fun st=>∃k:Nat,k<=l.length/\st=⟨67,[(0,sI l),(3,.osl 0),(4,eI (k:Int))],[(0,some (.row 2 1 ((aR (l.take k)).map fun n=>[eI n])))],1⟩) (fun st=>l.length-ax st 4) ⟨_,((bq 3 2 1 (by simp only[iC,aj.get,aX,aj.put,↓reduceIte,reduceCtorEq,Nat.reduceLT,Nat.reduceEqDiff,Nat.reduceAdd,Nat.reduceLeDiff,eq_self,implies_true,Va,aR,WW,Vn])).trans (wS [0] (kf @Va (kf @aR.eq_1 @WW)))),0,UR _,rfl⟩ ?_;rintro _ ⟨k,hk,rfl⟩;by_cases hlt:k<l.length
 .have hst:=Dg l k hlt
  have hol:(aR (l.take k)).length<=5000000:=by
   have:=fh (l.take k);have:=List.length_take_le k l;omega
  obtain⟨x,hx⟩:∃x,x=l[k]:=⟨_,rfl⟩;have hrx:(l.map fun n=>[eI n])[k]?.getD []=[eI x]:=by rw[hx];simp[hlt]
  rw[<- hx] at hst;obtain⟨O,hO⟩:∃O,O=aR (l.take k):=⟨_,rfl⟩;rw[<- hO] at hst hol ⊢
  repeat' first|refine ge @hlt ?_|decide|refine sp ?_ ?_<;>intro _
  refine af (fun st=>∃m:Nat,m<=O.length/\st=⟨67,[(0,sI l),(3,.osl 0),(4,eI (k:Int)),(5,.osl 1),(6,eB (gF x (O.take m)).2),(7,eI (m:Int))],[(0,some (.row 2 1 (O.map fun n=>[eI n]))),(1,some (.row 2 1 ((gF x (O.take m)).1.map fun n=>[eI n])))],2⟩) (fun st=>O.length-ax st 7) ⟨_,((bq 5 2 1 (by simp only[iC,aj.get,aX,aj.put,↓reduceIte,reduceCtorEq,Nat.reduceLT,Nat.reduceEqDiff,Nat.reduceAdd,Nat.reduceLeDiff,eq_self,implies_true,Va,gF,WW,Vn])).trans (wS [0,1] (kf @Va (kf @gF.eq_1 @WW)))),0,UR _,rfl⟩ ?_;rintro _ ⟨m,hm,rfl⟩;have hil:=FB x O m;by_cases hlt2:m<O.length
  .have hs:=G1 x O m hlt2;obtain⟨y,hy⟩:∃y,y=O[m]:=⟨_,rfl⟩;have hry:(O.map fun n=>[eI n])[m]?.getD []=[eI y]:=by rw[hy];simp[hlt2]
   rw[<- hy] at hs;obtain⟨n,b,hn⟩:∃n b,gF x (O.take m)=(n,b):=⟨_,_,rfl⟩;rw[hn] at hs hil ⊢;simp only at hil;by_cases hxy:x<=y
   .have d1:decide (x<=y)=true:=Vb hxy;by_cases hne:y=x
    .have d2:(y != x)=false:=by simp[hne]
     cases b with
     | true=>
      rw[Nr x y n hne] at hs
      repeat' first|refine gf (kf @hlt (kf @hlt2 (kf @hrx (kf @hry (kf d1 d2))))) ?_|decide|refine sp ?_ ?_<;>intro _|(with_reducible apply And.intro)
      all_goals first
       | rfl
       | omega
       | exact rI (wS [0,1] hs) ⟨m+1,by omega,rfl⟩
     | false=>
      rw[Nn x y n hxy hne] at hs;have e1:(n ++ [x]).map (fun n=>[eI n])=n.map (fun n=>[eI n]) ++ [[eI x]]:=(by simp)
      repeat' first|refine gf (kf @hlt (kf @hlt2 (kf @hrx (kf @hry (kf d1 d2))))) ?_|decide|refine sp ?_ ?_<;>intro _|(with_reducible apply And.intro)
      all_goals first
       | rfl
       | omega
       | exact rI (wS [0,3] (kf hs e1)) ⟨m+1,by omega,rfl⟩
    .have d2:(y != x)=true:=by simp[hne]
     cases b with
     | true=>
      rw[DJ x y n hne] at hs;have e1:(n ++ [y]).map (fun n=>[eI n])=n.map (fun n=>[eI n]) ++ [[eI y]]:=(by simp)
      repeat' first|refine gf (kf @hlt (kf @hlt2 (kf @hrx (kf @hry (kf d1 d2))))) ?_|decide|refine sp ?_ ?_<;>intro _|(with_reducible apply And.intro)
      all_goals first
       | rfl
       | omega
       | exact rI (wS [0,3] (kf hs e1)) ⟨m+1,by omega,rfl⟩
     | false=>
      rw[Ie x y n hxy hne] at hs;have e1:((n ++ [x]) ++ [y]).map (fun n=>[eI n])=(n.map (fun n=>[eI n]) ++ [[eI x]]) ++ [[eI y]]:=(by simp)
      repeat' first|refine gf (kf @hlt (kf @hlt2 (kf @hrx (kf @hry (kf d1 d2))))) ?_|decide|refine sp ?_ ?_<;>intro _|(with_reducible apply And.intro)
      all_goals first
       | rfl
       | omega
       | (simp;omega)
       | exact rI (wS [0,5] (kf hs e1)) ⟨m+1,by omega,rfl⟩
   .have d1:decide (x<=y)=false:=U5 hxy;have hne:y≠x:=(by omega);have d2:(y != x)=true:=(by simp[hne]);have e1:(n ++ [y]).map (fun n=>[eI n])=n.map (fun n=>[eI n]) ++ [[eI y]]:=(by simp)
    cases b with
    | true=>
     rw[DJ x y n hne] at hs
     repeat' first|refine gf (kf @hlt (kf @hlt2 (kf @hrx (kf @hry (kf d1 d2))))) ?_|decide|refine sp ?_ ?_<;>intro _|(with_reducible apply And.intro)
     all_goals first
      | rfl
      | omega
      | exact rI (wS [0,3] (kf hs e1)) ⟨m+1,by omega,rfl⟩
    | false=>
     rw[MN x y n hxy] at hs
     repeat' first|refine gf (kf @hlt (kf @hlt2 (kf @hrx (kf @hry (kf d1 d2))))) ?_|decide|refine sp ?_ ?_<;>intro _|(with_reducible apply And.intro)
     all_goals first
      | rfl
      | omega
      | exact rI (wS [0,3] (kf hs e1)) ⟨m+1,by omega,rfl⟩
  .obtain rfl:m=O.length:=by omega
   rw[U6] at hil ⊢;unfold xW at hst;obtain⟨n,b,hn⟩:∃n b,gF x O=(n,b):=⟨_,_,rfl⟩;rw[hn] at hst hil ⊢;simp only at hil
   cases b with
   | true=>
    simp only[↓reduceIte] at hst
    repeat' first|refine gf (kf @hlt (kf @hlt2 @hrx)) ?_|decide|refine sp ?_ ?_<;>intro _|(with_reducible apply And.intro)
    all_goals first
     | rfl
     | omega
     | exact rI (wS [1] @hst) ⟨k+1,by omega,rfl⟩
   | false=>
    simp only[↓reduceIte,VB] at hst;have e1:(n ++ [x]).map (fun n=>[eI n])=n.map (fun n=>[eI n]) ++ [[eI x]]:=(by simp)
    repeat' first|refine gf (kf @hlt (kf @hlt2 @hrx)) ?_|decide|refine sp ?_ ?_<;>intro _|(with_reducible apply And.intro)
    all_goals first
     | rfl
     | omega
     | exact rI (wS [3] (kf @hst e1)) ⟨k+1,by omega,rfl⟩
 .obtain rfl:k=l.length:=by omega
  repeat' first|refine gf (kf @hlt @U6) ?_|decide|refine sp ?_ ?_<;>intro _
  exact aV (by simp[ae.gc])
theorem fZ(l:List Int)(hl:l.length<=5000000):am Tryz.prog 21 [sI l] ⟨sI (aR l),[],0⟩:=
 wl 2 ((xw l hl).mono fun R h=>.inl h)
def j3(c:List Int)(n:Int):Nat:=c.countP (fun x=>decide (x<n))
structure fo where
 attrs:Int
 const:Int
structure Zn where
 cls:List fo
 gaps:List Int
abbrev du(x:fo):List AV:=[eI x.attrs,eI x.const]
abbrev cS(z:Zn):List AV:=[.sl 2 (z.cls.map du),sI z.gaps]
def GG{α:Type}(p:α -> Bool)(l:List α):Int:=match l.findIdx? p with|some k=>(k:Int)|none=>-1
theorem DH{α:Type}{p:α -> Bool}{l:List α}{k:Nat}(hk:k<l.length)(h:p l[k]=true)(hn:∀i (h:i<k),p (l[i]'(by omega))=false):GG p l=(k:Int):=by
 have:l.findIdx? p=some k:=Wn.2 ⟨hk,h,fun j hj=>by simp[hn j hj]⟩;unfold GG;rw[this]
theorem vy{α:Type}{p:α -> Bool}{l:List α}(h:∀x∈l,p x=false):GG p l = -1:=by
 have:l.findIdx? p=none:=WM.2 h;unfold GG;rw[this]
def xh(c:List Int)(a n:Int)(x:fo):Bool:=(a != -1 && aQ x.attrs a) || (a == -1 && decide (n∈c) && x.const == (j3 c n:Int))
def cI(z:Zn)(consts:List Int)(a n:Int):Int:=GG (xh (aR consts) a n) z.cls
def A5(z:Zn)(consts:List Int)(la ln ra rn:Int):Int:=
 if cI z consts la ln<0\/cI z consts ra rn<0 then 0 else n8 (cI z consts la ln) (cI z consts ra rn)
end
section
def dI(x:aw):Bool:=decide (3<=x.op) && decide (x.op<=8)
def gK(z:Zn)(c:List Int)(x:aw):Bool:=dI x && (decide (cI z c x.la x.ln<0) || decide (cI z c x.ra x.rn<0))
def lk(l:List aw)(z:Zn)(c:List Int):Bool:=!(l.any (gK z c))
def dL(l:List aw)(z:Zn)(c:List Int)(s:St):Option Bool:=if lk l z c=true then gY (fun x=>some (A5 z c x.la x.ln x.ra x.rn)) s.opn s.don l else none
end
section
theorem oy{c:List Int}(hc:Up c){n:Int}{q:Nat}(hq:q<c.length)(h:c[q]=n):j3 c n=q:=by
 have hp:=Vo.1 hc;exact(HG c n hc q (by omega) (fun h0=>by rw[<- h];exact hp (q-1) q (by omega) hq (by omega)) (fun _=>by omega)).1
theorem MX{c:List Int}(hc:Up c)(a n:Int)(x:fo):xh c a n x=((a != -1 && aQ x.attrs a) || (a == -1 && (decide (0<=x.const) && decide (x.const<(c.length:Int)) && (c.getD x.const.toNat 0 == n)))):=by
 have key:(decide (n∈c) && x.const == (j3 c n:Int))=(decide (0<=x.const) && decide (x.const<(c.length:Int)) && (c.getD x.const.toNat 0 == n)):=by
  rw[Wl];simp only[U1,U7,Wz];constructor
  .rintro ⟨h1,h2⟩;obtain⟨i,hi,he⟩:=U8 h1;rw[oy hc hi he] at h2;rw[h2];refine⟨⟨by omega,by omega⟩,?_⟩;rw[VD,Os,p0 hi];exact he
  .rintro ⟨⟨h1,h2⟩,h3⟩;obtain⟨q,hq⟩:∃q:Nat,x.const=(q:Int):=⟨x.const.toNat,by omega⟩;rw[hq] at h2 h3 ⊢;have hql:q<c.length:=(by omega);rw[VD,Os,p0 hql] at h3;have h3:c[q]=n:=h3;exact⟨h3 ▸ UQ hql,by rw[oy hc hql h3]⟩
 unfold xh;rw[Bool.and_assoc,key]
theorem pd(z:Zn)(consts:List Int)(a n:Int)(h1:z.cls.length<=1000000)(h2:consts.length<=1000)(ho:∀x∈z.cls,aA x.attrs):am Tryz.prog 138 [.agg (cS z),sI consts,.agg [eI a,eI n]] (val (.int .i64 (cI z consts a n))):=by
 refine aa ag Tryz.func138 rfl (by decide) Tryz.ntmps138 Tryz.results138 rfl (aD _) ?_;have hlen:=fh consts;have hup:=(bm consts).1;unfold cI;have hS:=fZ consts (by omega);obtain⟨c,hc⟩:∃c,aR consts=c:=⟨_,rfl⟩;rw[hc] at hS hlen hup ⊢;obtain⟨p,hp⟩:∃p,xh c a n=p:=⟨_,rfl⟩;rw[hp]
 repeat' first|refine gq ?_|decide|refine sp ?_ ?_<;>intro _|refine cA hS ?_|fail
 refine af (fun st=>∃k:Nat,k<=z.cls.length/\(∀i (h:i<z.cls.length),i<k->p z.cls[i]=false)/\st=⟨61,[(3,.op 0 0 0),(5,.op 1 0 0),(7,sI c),(8,eI (k:Int))],[(0,some (.box 54 (cS z))),(1,some (.box 117 [eI a,eI n]))],2⟩) (fun st=>z.cls.length-ax st 8) ⟨_,wC,0,UR _,fun i _ h=>by omega,rfl⟩ ?_;rintro _ ⟨k,hk,hn,rfl⟩;by_cases hlt:k<z.cls.length
 .have hh:=eQ z.cls[k].attrs a (ho _ (UQ hlt));have hP:=MX hup a n z.cls[k];rw[hp] at hP;obtain⟨x,hx⟩:∃x,z.cls[k]=x:=⟨_,rfl⟩;have hyes:p x=true->GG p z.cls=(k:Int):=fun h=>DH hlt (by rw[hx];exact h) fun i hi=>hn i (by omega) hi
  have hno:p x=false->∀i (h:i<z.cls.length),i<k+1->p z.cls[i]=false:=fun h i hi h2=>by
   rcases U9 i k with h3|h3
   .exact hn i hi h3
   .obtain rfl:i=k:=by omega
    rw[hx];exact h
  rw[hx] at hh hP;obtain⟨xa,xc⟩:=x;by_cases hq:0<=xc/\xc<(c.length:Int)
  .obtain ⟨q,rfl⟩:∃q:Nat,xc=(q:Int):=⟨xc.toNat,by omega⟩;have hql:q<c.length:=(by omega);have hcq:c.getD q 0=c[q]:=by rw[Os,p0 hql];rfl
   repeat' first|refine gq ?_|simp only[ab,hlt,hx,hql]|decide|refine sp ?_ ?_<;>intro _|refine cA hh ?_|fail
   all_goals first
    | (rw[hyes (by rw[hP];clear hn hno hyes hP;simp_all)];done)
    | exact rI (wR [0,1]) ⟨k+1,by omega,hno (by rw[hP];clear hn hno hyes hP;simp_all),rfl⟩
    | (exfalso;simp at *;omega)
  .have hg:(decide (0<=xc) && decide (xc<(c.length:Int)))=false:=by
    rw[VA];intro h;exact hq (by simpa using h)
   have hP2:p ⟨xa,xc⟩=(a != -1 && aQ xa a):=by
    rw[hP];simp only[hg,VK,Bool.and_false,Bool.or_false]
   clear hP
   repeat' first|refine gq ?_|simp only[ab,hlt,hx]|decide|refine sp ?_ ?_<;>intro _|refine cA hh ?_|fail
   all_goals first
    | (rw[hyes (by rw[hP2];clear hn hno hyes hP2;simp_all)];done)
    | exact rI (wR [0,1]) ⟨k+1,by omega,hno (by rw[hP2];clear hn hno hyes hP2;simp_all),rfl⟩
    | (exfalso;simp at *;omega)
 .obtain rfl:k=z.cls.length:=by omega
  repeat' first|refine gf @hlt ?_|decide|refine sp ?_ ?_<;>intro _
  rw[vy fun x hx=>by obtain⟨i,hi,rfl⟩:=U8 hx;exact hn i hi hi]
theorem LQ(l:List aw)(z:Zn)(c:List Int)(hl:l.length<=1000000)(h1:z.cls.length<=1000000)(h2:c.length<=1000)(ho:∀x∈z.cls,aA x.attrs):am Tryz.prog 137 [bf l,.agg (cS z),sI c] (val (.bool (lk l z c))):=by
 refine aa ag Tryz.func137 rfl (by decide) Tryz.ntmps137 Tryz.results137 rfl (aD _) ?_;unfold lk
 repeat' first|refine go ?_|decide|refine sp ?_ ?_<;>intro _
 refine af (fun st=>∃k:Nat,k<=l.length/\(∀i (h:i<l.length),i<k->gK z c l[i]=false)/\st=⟨50,[(0,bf l),(2,sI c),(4,.op 0 0 0),(7,eI (k:Int))],[(0,some (.box 54 (cS z)))],1⟩) (fun st=>l.length-ax st 7) ⟨_,wC,0,UR _,fun i _ h=>by omega,rfl⟩ ?_;rintro _ ⟨k,hk,hn,rfl⟩;by_cases hlt:k<l.length
 .obtain ⟨x,hx⟩:∃x,l[k]=x:=⟨_,rfl⟩;have hL:=pd z c x.la x.ln h1 h2 ho;have hR:=pd z c x.ra x.rn h1 h2 ho
  have hyes:gK z c x=true->(!l.any (gK z c))=false:=fun h=>by
   have:l.any (gK z c)=true:=WS.2 ⟨_,UQ hlt,by rw[hx];exact h⟩;rw[this];rfl
  have hno:gK z c x=false->∀i (h:i<l.length),i<k+1->gK z c l[i]=false:=fun h i hi h2=>by
   rcases U9 i k with h3|h3
   .exact hn i hi h3
   .obtain rfl:i=k:=by omega
    rw[hx];exact h
  repeat' first|refine gq ?_|simp only[ab,hlt,hx]|decide|refine sp ?_ ?_<;>intro _|refine cA hL ?_|refine cA hR ?_|fail
  all_goals first
   | (rw[hyes (by clear hn hno hyes hL hR;simp_all [gK,dI])];done)
   | exact rI wC ⟨k+1,by omega,hno (by clear hn hno hyes hL hR;simp_all [gK,dI];try (intros;omega)),rfl⟩
   | (exfalso;simp at *;omega)
 .obtain rfl:k=l.length:=by omega
  have:l.any (gK z c)=false:=by
   rw[List.any_eq_false];intro x hx;obtain⟨i,hi,rfl⟩:=U8 hx;rw[hn i hi hi];simp
  repeat' first|refine gf (kf @hlt (kf @this @WF)) ?_|decide|refine sp ?_ ?_<;>intro _
def eM(z:Zn)(c:List Int)(x:aw):aw:=if dI x=true then ⟨x.op,-1,cI z c x.la x.ln,-1,cI z c x.ra x.rn,x.n,x.u⟩ else x
theorem J3(z:Zn)(c:List Int)(x:aw):(eM z c x).op=x.op:=by unfold eM;split<;>rfl
theorem CJ(z:Zn)(c:List Int)(vals:List Int)(o d:Int)(x:aw)(r:List Bool)(h:gK z c x=false):cD (p7 vals) o d (eM z c x) r=cD (fun x=>some (A5 z c x.la x.ln x.ra x.rn)) o d x r:=by
 by_cases hc:dI x=true
 .have h3:3<=x.op/\x.op<=8:=by simpa[dI] using hc
  have hp:¬cI z c x.la x.ln<0/\¬cI z c x.ra x.rn<0:=by
   unfold gK at h;rw[hc] at h;simpa using h
  unfold eM;rw[UZ hc];unfold cD;simp only[show ¬(x.op=1\/x.op=2) by omega,if_false,h3,and_self,if_true]
  have:p7 vals ⟨x.op,-1,cI z c x.la x.ln,-1,cI z c x.ra x.rn,x.n,x.u⟩=some (n8 (cI z c x.la x.ln) (cI z c x.ra x.rn)):=by
   simp[p7,fT]
  rw[this];unfold A5;rw[UX (by omega)]
 .unfold eM;rw[UX hc];have h3:¬(3<=x.op/\x.op<=8):=by simpa[dI] using hc
  unfold cD;simp only[h3,if_false]
theorem vL(z:Zn)(c:List Int)(vals:List Int)(o d:Int):∀(l:List aw)(r:List Bool),(∀x∈l,gK z c x=false)->cO (p7 vals) o d (l.map (eM z c)) r=cO (fun x=>some (A5 z c x.la x.ln x.ra x.rn)) o d l r
 | [],r,_=>rfl
 | x :: l,r,h=>by
  rw[VE,cO,cO,CJ z c vals o d x r (h x (Vr ..))]
  cases cD (fun x=>some (A5 z c x.la x.ln x.ra x.rn)) o d x r with
  | none=>rfl
  | some r'=>exact vL z c vals o d l r' fun y hy=>h y (Vx _ hy)
theorem Bc(z:Zn)(c:List Int)(s:St)(l:List aw)(h:lk l z c=true):dS (l.map (eM z c)) s=dL l z c s:=by
 have hl:∀x∈l,gK z c x=false:=by
  unfold lk at h;simpa using h
 have ho:(l.map (eM z c)).map aw.op=l.map aw.op:=by
  rw[Xt];exact WA fun x _=>J3 z c x
 unfold dL;rw[UZ h];unfold dS gY;rw[ho,vL z c s.vals s.opn s.don l [] hl]
theorem Fw(l:List aw)(z:Zn)(c:List Int)(s:St)(hl:l.length<=900)(h1:z.cls.length<=1000000)(h2:c.length<=1000)(ho:∀x∈z.cls,aA x.attrs)(hop:aA s.opn)(hdo:aA s.don):am Tryz.prog 95 [bf l,.agg (cS z),sI c,.agg (cy s)] ⟨.tup [eB (n6 (dL l z c s)),eI (zr (dL l z c s))],[],0⟩:=by
 have hok:(⟨.tup [eB (n6 (dL l z c s)),eI (zr (dL l z c s))],[],0⟩:cu).Ok:=⟨fun id o h=>(by cases h),by simp[AV.lt,AV.ltL]⟩;refine aa ag Tryz.func95 rfl (by decide) Tryz.ntmps95 Tryz.results95 rfl (hok) ?_;have hK:=LQ l z c (by omega) h1 h2 ho
 cases hk:lk l z c with
 | false=>
  rw[hk] at hK;have hz:dL l z c s=none:=by unfold dL;rw[UX (by simp[hk])]
  rw[hz]
  repeat' first|refine gq ?_|decide|refine sp ?_ ?_<;>intro _|refine cA hK ?_|fail
  all_goals exact aF (by first|rfl|simp[AV.ren,AV.renL,n6,zr])
 | true=>
  rw[hk] at hK
  repeat' first|refine gq ?_|decide|refine sp ?_ ?_<;>intro _|refine cA hK ?_|fail
  refine af (fun st=>∃k:Nat,k<=l.length/\st=⟨59,[(0,bf l),(2,sI c),(5,.op 0 0 0),(7,.op 1 0 0),(10,.osl 2),(11,eI (k:Int))],[(0,some (.box 54 (cS z))),(1,some (.box 59 (cy s))),(2,some (.row 119 7 ((l.take k).map fun x=>gc (eM z c x))))],3⟩) (fun st=>l.length-ax st 11) ⟨_,((bq 10 119 7 (by simp only[iC,aj.get,aX,aj.put,↓reduceIte,reduceCtorEq,Nat.reduceLT,Nat.reduceEqDiff,Nat.reduceAdd,Nat.reduceLeDiff,eq_self,implies_true,Va,Vn])).trans (wS [0,1,2] @Va)),0,UR _,rfl⟩ ?_;rintro _ ⟨k,hk2,rfl⟩;by_cases hlt:k<l.length
  .obtain ⟨x,hx⟩:∃x,l[k]=x:=⟨_,rfl⟩;have hL:=pd z c x.la x.ln h1 h2 ho;have hR:=pd z c x.ra x.rn h1 h2 ho;have hsn:(l.take (k+1)).map (fun x=>gc (eM z c x))=(l.take k).map (fun x=>gc (eM z c x)) ++ [gc (eM z c x)]:=(by rw[dm _ l hlt,hx]);have htl:(l.take k).length<=900:=by rw[U2];omega
   cases hc:dI x with
   | true=>
    have hs:eM z c x=⟨x.op,-1,cI z c x.la x.ln,-1,cI z c x.ra x.rn,x.n,x.u⟩:=by unfold eM;rw[UZ hc]
    rw[hs] at hsn;have h3:decide (3<=x.op)=true/\decide (x.op<=8)=true:=(by simpa[dI] using hc)
    repeat' first|refine gq ?_|simp only[ab,hlt,hx,h3.1,h3.2]|decide|refine sp ?_ ?_<;>intro _|refine cA hL ?_|refine cA hR ?_|(with_reducible apply And.intro)
    all_goals first
     | rfl
     | omega
     | exact rI (wS [0,1,5] @hsn) ⟨k+1,by omega,rfl⟩
   | false=>
    have hs:eM z c x=x:=by unfold eM;rw[UX (by simp[hc])]
    rw[hs] at hsn
    repeat' first|refine gq ?_|simp only[ab,hlt,hx]|decide|refine sp ?_ ?_<;>intro _|refine cA hL ?_|refine cA hR ?_|(with_reducible apply And.intro)
    all_goals first
     | rfl
     | omega
     | (exfalso;simp_all [dI];done)
     | (exfalso;simp_all [dI];omega)
     | exact rI (wS [0,1,5] @hsn) ⟨k+1,by omega,rfl⟩
  .obtain rfl:k=l.length:=by omega
   have hH:=pV (l.map (eM z c)) s (by simp;omega) hop hdo;rw[Bc z c s l hk] at hH;have em:(l.map (eM z c)).map gc=l.map fun x=>gc (eM z c x):=by rw[Xt];rfl
   simp only[bf,em] at hH
   repeat' first|refine ge (kf @hlt @U6) ?_|decide|refine sp ?_ ?_<;>intro _
   refine cL (r:=.tup [eB (n6 (dL l z c s)),eI (zr (dL l z c s))]) ?_ (.inr (by simp[AV.plain,AV.plainL])) ?_
   .repeat' first|decide|refine go ?_
    exact hH
   .repeat' first|refine gq ?_|decide|refine sp ?_ ?_<;>intro _
    all_goals exact aF (by first|rfl|simp[AV.ren,AV.renL])
end
section
def a6(vals c:List Int):List Int:=aR (vals ++ c)
def cn(vals:List Int)(n:Int):Nat->Int
 | 0=>0
 | k+1=>if vals.getD k 0=n then bn (cn vals n k) (k:Int) else cn vals n k
def dE(c:List Int)(n:Int):Nat->Int
 | 0=>-1
 | k+1=>if c.getD k 0=n then (k:Int) else dE c n k
def ey(vals c:List Int)(n:Int):fo:=⟨cn vals n vals.length,dE (aR c) n (aR c).length⟩
def iB(vals c:List Int):List fo:=(a6 vals c).map (ey vals c)
theorem pY(a:Int):aQ 0 a=false:=by simp[aQ]
theorem kM(vals:List Int)(n:Int):∀k,k<=31->∀a:Int,aQ (cn vals n k) a=true↔ ∃q:Nat,a=(q:Int)/\q<k/\vals.getD q 0=n
 | 0,_,a=>by
  unfold cn;rw[pY];constructor
  .intro h;cases h
  .rintro ⟨q,_,h,_⟩;omega
 | k+1,hk,a=>by
  have ih:=kM vals n k (by omega) a;unfold cn;by_cases hv:vals.getD k 0=n
  .rw [UZ hv,gT];have h1:decide (0<=(k:Int)/\(k:Int)<31)=true:=by simp only[U7];omega
   rw[h1,VC,Wb,ih];constructor
   .rintro (h|⟨q,h2,h3,h4⟩)
    .exact ⟨k,by simpa using h,by omega,hv⟩
    .exact ⟨q,h2,by omega,h4⟩
   .rintro ⟨q,h2,h3,h4⟩;rcases U9 q k with h5|h5
    .exact .inr ⟨q,h2,h5,h4⟩
    .obtain rfl:q=k:=by omega
     exact .inl (by simp[h2])
  .rw [UX hv,ih];constructor
   .rintro ⟨q,h2,h3,h4⟩;exact⟨q,h2,by omega,h4⟩
   .rintro ⟨q,h2,h3,h4⟩;rcases U9 q k with h5|h5
    .exact ⟨q,h2,h5,h4⟩
    .obtain rfl:q=k:=by omega
     exact absurd h4 hv
theorem jf(c:List Int)(n:Int):∀k,(dE c n k = -1/\∀q,q<k->c.getD q 0≠n)\/∃q:Nat,dE c n k=(q:Int)/\q<k/\c.getD q 0=n
 | 0=>.inl ⟨rfl,fun q h=>by omega⟩
 | k+1=>by
  unfold dE;by_cases hv:c.getD k 0=n
  .rw [UZ hv];exact .inr ⟨k,rfl,by omega,hv⟩
  .rw [UX hv];rcases jf c n k with ⟨h1,h2⟩|⟨q,h1,h2,h3⟩
   .refine .inl ⟨h1,fun q h=>?_⟩;rcases U9 q k with h5|h5
    .exact h2 q h5
    .obtain rfl:q=k:=by omega
     exact hv
   .exact .inr ⟨q,h1,by omega,h3⟩
theorem iH{c:List Int}{q:Nat}(h:q<c.length):c.getD q 0=c[q]:=by
 rw[Os,p0 h];rfl
theorem lX{c:List Int}(hc:Up c){n:Int}(h:n∈c):∃h:j3 c n<c.length,c[j3 c n]=n:=by
 obtain⟨i,hi,he⟩:=U8 h;have h1:=oy hc hi he;rw[h1];exact⟨hi,he⟩
theorem Gc(vals c:List Int)(n m:Int):xh (aR c) (-1) n (ey vals c m)=true↔n∈aR c/\m=n:=by
 have hup:=(bm c).1;have hne:((-1:Int) != -1)=false:=by decide
 have heq:((-1:Int) == -1)=true:=by decide
 unfold xh;rw[hne,heq,VK,Xn,VC,U1,U7,Wz];constructor
 .rintro ⟨h1,h2⟩;refine⟨h1,?_⟩;obtain⟨h3,h4⟩:=lX hup h1;rcases jf (aR c) m (aR c).length with ⟨h5,_⟩|⟨q,h5,h6,h7⟩
  .unfold ey at h2;simp only[h5] at h2;omega
  .unfold ey at h2;simp only[h5] at h2;have:q=j3 (aR c) n:=by omega
   subst this;rw[iH h6,h4] at h7;exact h7.symm
 .rintro ⟨h1,rfl⟩;refine⟨h1,?_⟩;obtain⟨h3,h4⟩:=lX hup h1;rcases jf (aR c) m (aR c).length with ⟨h5,h6⟩|⟨q,h5,h6,h7⟩
  .exact absurd (by rw[iH h3];exact h4) (h6 _ h3)
  .unfold ey;simp only[h5];rw[iH h6] at h7;rw[oy hup h6 h7]
theorem Jk(vals c:List Int)(hv:vals.length<=31)(a n m:Int)(ha:a≠ -1):xh (aR c) a n (ey vals c m)=true↔fT vals a n=some m:=by
 have hne:(a != -1)=true:=by simpa using ha
 have heq:(a == -1)=false:=by simpa using ha
 unfold xh;rw[hne,heq,VC,VK,VK,Bool.or_false];unfold ey;rw[kM vals m vals.length hv a];unfold fT;rw[UX ha];constructor
 .rintro ⟨q,rfl,h1,h2⟩;rw[UX (by omega),VD,p0 h1,<- iH h1,h2]
 .intro h;split at h
  .cases h
  .obtain ⟨h1,h2⟩:=US.1 h;exact⟨a.toNat,by omega,h1,by rw[iH h1,h2]⟩
theorem wJ(vals c:List Int)(hv:vals.length<=31)(a n m:Int)(hc:a = -1->n∈c):xh (aR c) a n (ey vals c m)=true↔fT vals a n=some m:=by
 by_cases ha:a = -1
 .subst ha;have h1:fT vals (-1) n=some n:=rfl;rw[Gc,h1];constructor
  .rintro ⟨_,rfl⟩;rfl
  .intro h;exact⟨(bm c).2 n |>.2 (hc rfl),(Wk h).symm⟩
 .exact Jk vals c hv a n m ha
theorem t3(z:Zn)(vals c:List Int)(hz:z.cls=iB vals c)(hv:vals.length<=31)(a n v:Int)(hc:a = -1->n∈c)(h:fT vals a n=some v):v∈a6 vals c/\cI z c a n=(j3 (a6 vals c) v:Int):=by
 have hup:Up (a6 vals c):=(bm (vals ++ c)).1
 have hm:v∈a6 vals c:=by
  refine((bm (vals ++ c)).2 v).2 (U4.2 ?_);unfold fT at h;split at h
  .rename_i ha;right;have:=hc ha;rw[Wk h] at this;exact this
  .split at h
   .cases h
   .exact .inl (r2 h)
 refine⟨hm,?_⟩;obtain⟨h1,h2⟩:=lX hup hm;have hlen:(iB vals c).length=(a6 vals c).length:=by simp[iB]
 unfold cI;rw[hz];have h1':j3 (a6 vals c) v<(iB vals c).length:=by rw[hlen];exact h1
 have hat:∀i (hi:i<(iB vals c).length),(iB vals c)[i]=ey vals c ((a6 vals c)[i]'(by rw[<- hlen];exact hi)):=fun i hi=>by simp[iB]
 refine DH h1' ?_ fun i hi=>?_
 .rw [hat,wJ vals c hv a n _ hc,h];exact congrArg some h2.symm
 .rw [hat _ (by omega),VA];intro hh;rw[wJ vals c hv a n _ hc,h] at hh;have:=Wk hh;have hil:i<(a6 vals c).length:=by omega
  have hp:=Vo.1 hup i (j3 (a6 vals c) v) hil h1 hi;rw[h2] at hp;omega
theorem zR(z:Zn)(vals c:List Int)(hz:z.cls=iB vals c)(hv:vals.length<=31)(a n:Int)(hc:a = -1->n∈c)(h:fT vals a n=none):cI z c a n = -1:=by
 unfold cI;rw[hz];refine vy fun x hx=>?_;obtain⟨m,_,rfl⟩:=U3.1 hx;rw[VA];intro hh;rw[wJ vals c hv a n _ hc,h] at hh;cases hh
theorem Il{L:List Int}(hL:Up L){v w:Int}(hv:v∈L)(hw:w∈L):n8 (j3 L v:Int) (j3 L w:Int)=n8 v w:=by
 obtain⟨h1,h2⟩:=lX hL hv;obtain⟨h3,h4⟩:=lX hL hw;have hp:=Vo.1 hL;unfold n8;rcases Wp (j3 L v) (j3 L w) with h|h|h
 .have:=hp _ _ h1 h3 h;rw[h2,h4] at this;rw[UZ (by omega),UZ this]
 .have e:v=w:=by
   rw[<- h2,<- h4]
   congr 1
  subst e;simp
 .have:=hp _ _ h3 h1 h;rw[h2,h4] at this;rw[UX (by omega),UZ (by omega),UX (by omega),UZ (by omega)]
def zy(l:List aw)(c:List Int):Prop:=∀x∈l,dI x=true->(x.la = -1->x.ln∈c)/\(x.ra = -1->x.rn∈c)
theorem EC(z:Zn)(vals c:List Int)(hz:z.cls=iB vals c)(hv:vals.length<=31)(x:aw)(hx:(x.la = -1->x.ln∈c)/\(x.ra = -1->x.rn∈c)) :
  (p7 vals x=none/\(cI z c x.la x.ln<0\/cI z c x.ra x.rn<0))\/(p7 vals x=some (A5 z c x.la x.ln x.ra x.rn)/\¬(cI z c x.la x.ln<0\/cI z c x.ra x.rn<0)):=by
 unfold p7
 cases h1:fT vals x.la x.ln with
 | none=>
  left;have:=zR z vals c hz hv x.la x.ln hx.1 h1;exact⟨rfl,.inl (by omega)⟩
 | some v=>
  obtain⟨m1,p1⟩:=t3 z vals c hz hv x.la x.ln v hx.1 h1
  cases h2:fT vals x.ra x.rn with
  | none=>
   left;have:=zR z vals c hz hv x.ra x.rn hx.2 h2;exact⟨rfl,.inr (by omega)⟩
  | some w=>
   right;obtain⟨m2,p2⟩:=t3 z vals c hz hv x.ra x.rn w hx.2 h2;refine⟨?_,by omega⟩;unfold A5;have hup:Up (a6 vals c):=(bm (vals ++ c)).1;rw[UX (by omega),p1,p2,Il hup m1 m2]
theorem yu(cm:aw->Option Int)(o d:Int):∀(l:List aw)(r:List Bool),(∃x∈l,dI x=true/\cm x=none)->cO cm o d l r=none
 | [],r,h=>by
  obtain⟨x,hx,_⟩:=h;cases hx
 | y :: l,r,⟨x,hx,h1,h2⟩=>by
  unfold cO;rcases VL.1 hx with rfl|hx
  .have h3:3<=x.op/\x.op<=8:=by simpa[dI] using h1
   have:cD cm o d x r=none:=by
    unfold cD;simp only[show ¬(x.op=1\/x.op=2) by omega,if_false,h3,and_self,if_true,h2]
   rw[this]
  .cases cD cm o d y r with
   | none=>rfl
   | some r'=>exact yu cm o d l r' ⟨x,hx,h1,h2⟩
theorem Nj(cm cm':aw->Option Int)(o d:Int)(x:aw)(r:List Bool)(h:dI x=true->cm x=cm' x):cD cm o d x r=cD cm' o d x r:=by
 by_cases hc:dI x=true
 .unfold cD;rw[h hc]
 .have h3:¬(3<=x.op/\x.op<=8):=by simpa[dI] using hc
  unfold cD;simp only[h3,if_false]
theorem Lv(cm cm':aw->Option Int)(o d:Int):∀(l:List aw)(r:List Bool),(∀x∈l,dI x=true->cm x=cm' x)->cO cm o d l r=cO cm' o d l r
 | [],r,_=>rfl
 | x :: l,r,h=>by
  rw[cO,cO,Nj cm cm' o d x r (h x (Vr ..))]
  cases cD cm' o d x r with
  | none=>rfl
  | some r'=>exact Lv cm cm' o d l r' fun y hy=>h y (Vx _ hy)
theorem FD(z:Zn)(c:List Int)(s:St)(l:List aw)(hz:z.cls=iB s.vals c)(hv:s.vals.length<=31)(hn:zy l c):dL l z c s=dS l s:=by
 unfold dL;by_cases hk:lk l z c=true
 .rw [UZ hk]
  have hlost:∀x∈l,gK z c x=false:=by
   unfold lk at hk;simpa using hk
  unfold dS gY
  rw[Lv (p7 s.vals) (fun x=>some (A5 z c x.la x.ln x.ra x.rn)) s.opn s.don l [] fun x hx hcx=>by
   rcases EC z s.vals c hz hv x (hn x hx hcx) with ⟨_,h2⟩|⟨h1,_⟩
   .have:=hlost x hx;unfold gK at this;rw[hcx] at this;simp at this;omega
   .exact h1]
 .rw [UX hk]
  have:∃x∈l,dI x=true/\p7 s.vals x=none:=by
   unfold lk at hk;have hk2:l.any (gK z c)=true:=(by simpa using hk);obtain⟨x,hx,h1⟩:=WS.1 hk2;unfold gK at h1;simp only[U1,Wb,U7] at h1;refine⟨x,hx,h1.1,?_⟩;rcases EC z s.vals c hz hv x (hn x hx h1.1) with ⟨h2,_⟩|⟨_,h2⟩
   .exact h2
   .exact absurd h1.2 h2
  unfold dS gY;rw[yu (p7 s.vals) s.opn s.don l [] this];split<;>rfl
end
section
def aY(r:Int):Int:=2 ^ (min r.toNat 20)-1
theorem uW(r:Int):am Tryz.prog 81 [eI r] (val (.int .i64 (aY r))):=by
 refine aa ag Tryz.func81 rfl (by decide) Tryz.ntmps81 Tryz.results81 rfl (aD _) ?_
 repeat' first|refine go ?_|decide|refine sp ?_ ?_<;>intro _
 refine af (fun st=>∃k:Nat,k<=20/\(k=0\/(k:Int)<=r)/\st=⟨18,[(0,eI r),(3,eI (2 ^ k-1)),(4,eI (k:Int))],[],0⟩) (fun st=>20-ax st 4) ⟨_,wC,0,UR _,.inl rfl,rfl⟩ ?_;rintro _ ⟨k,hk,hr,rfl⟩
 have hp:(2:Int) ^ k<=1048576:=by
  have h1:(2:Nat) ^ k<=2 ^ 20:=Vp (by omega) hk;have h2:((2 ^ k:Nat):Int)=(2:Int) ^ k:=by simp
  omega
 have hp0:(0:Int)<2 ^ k:=Int.pow_pos (by omega);have hps:(2:Int) ^ (k+1)=2 * 2 ^ k:=by rw[Int.pow_succ,Int.mul_comm]
 have ew1:IntKind.i64.wrap (2 * (2 ^ k-1))=2 * (2 ^ k-1):=aE (by omega) (by omega);have ew2:IntKind.i64.wrap (2 * (2 ^ k-1)+1)=2 ^ (k+1)-1:=by rw[aE (by omega) (by omega)];omega
 by_cases h1:(k:Int)<r
 .by_cases h2:k<20
  .have d1:decide ((k:Int)<r)=true:=(by simpa using h1);have d2:decide ((k:Int)<20)=true:=by simp only[U7];omega
   repeat' first|refine gf (kf d1 (kf d2 (kf ew1 ew2))) ?_|decide|refine sp ?_ ?_<;>intro _
   exact rI wC ⟨k+1,by omega,by omega,rfl⟩
  .have d1:decide ((k:Int)<r)=true:=(by simpa using h1);have d2:decide ((k:Int)<20)=false:=by simp only[Vf];omega
   repeat' first|refine gf (kf d1 d2) ?_|decide|refine sp ?_ ?_<;>intro _
   unfold aY;rw[show min r.toNat 20=k by omega]
 .have d1:decide ((k:Int)<r)=false:=by simpa using h1
  repeat' first|refine gf d1 ?_|decide|refine sp ?_ ?_<;>intro _
  unfold aY;rw[show min r.toNat 20=k by omega]
def cC(a b m:Int):Int:=max 0 (min (b-a-1) m)
theorem PA(a b m:Int)(ha:aA a)(hb:aA b)(hm:m<=4294967296):am Tryz.prog 80 [eI a,eI b,eI m] (val (.int .i64 (cC a b m))):=by
 refine aa ag Tryz.func80 rfl (by decide) Tryz.ntmps80 Tryz.results80 rfl (aD _) ?_
 repeat' first|refine go ?_|decide|refine sp ?_ ?_<;>intro _
 unfold aA at ha hb;refine af (fun st=>∃(k:Nat)(a':Int),(k:Int)<=cC a b m/\a'=a+k/\st=⟨27,[(0,eI a'),(1,eI b),(2,eI m),(7,eI (k:Int))],[],0⟩) (fun st=>m.toNat-ax st 7) ⟨_,wC,0,a,by unfold cC;omega,by omega,rfl⟩ ?_;rintro _ ⟨k,a',hk,ha',rfl⟩;by_cases h:(k:Int)<m/\a'<b/\a'+1<b
 .have d1:decide ((k:Int)<m)=true:=by simpa using h.1
  have d2:decide (a'<b)=true:=by simpa using h.2.1
  have d3:decide (a'+1<b)=true:=by simpa using h.2.2
  have ew:IntKind.i64.wrap (a'+1)=a'+1:=aE (by omega) (by omega)
  repeat' first|refine gf (kf d1 (kf d2 (kf ew d3))) ?_|decide|refine sp ?_ ?_<;>intro _
  exact rI wC ⟨k+1,a'+1,by unfold cC at *;omega,by omega,rfl⟩
 .have hg:(k:Int)=cC a b m:=by unfold cC at *;omega
  by_cases h1:(k:Int)<m
  .have d1:decide ((k:Int)<m)=true:=(by simpa using h1);by_cases h2:a'<b
   .have d2:decide (a'<b)=true:=(by simpa using h2);have d3:decide (a'+1<b)=false:=by simp only[Vf];omega
    have ew:IntKind.i64.wrap (a'+1)=a'+1:=aE (by omega) (by omega)
    repeat' first|refine gf (kf d1 (kf d2 (kf ew d3))) ?_|decide|refine sp ?_ ?_<;>intro _
    exact hg
   .have d2:decide (a'<b)=false:=by simpa using h2
    repeat' first|refine gf (kf d1 d2) ?_|decide|refine sp ?_ ?_<;>intro _
    exact hg
  .have d1:decide ((k:Int)<m)=false:=by simpa using h1
   repeat' first|refine gf d1 ?_|decide|refine sp ?_ ?_<;>intro _
   exact hg
theorem Au(vals c:List Int)(h1:vals.length<=400)(h2:c.length<=400):am Tryz.prog 78 [sI vals,sI c] ⟨sI (a6 vals c),[],0⟩:=by
 have hok:(⟨sI (a6 vals c),[],0⟩:cu).Ok:=⟨fun id o h=>(by cases h),by simp[AV.lt]⟩;refine aa ag Tryz.func78 rfl (by decide) Tryz.ntmps78 Tryz.results78 rfl (hok) ?_;have hS:=fZ (vals ++ c) (by simp;omega);have em:(vals.map fun n=>[eI n]) ++ (c.map fun n=>[eI n])=(vals ++ c).map fun n=>[eI n]:=by rw[Vc]
 repeat' first|refine gf em ?_|decide|refine sp ?_ ?_<;>intro _|(with_reducible apply And.intro)
 all_goals first
  | rfl
  | omega
  | skip
 refine Ag [2] (R:=⟨sI (aR (vals ++ c)),[],0⟩) ?_ ?_ ?_
 .repeat' first|decide|refine go ?_
  exact hS
 .repeat' first|decide|refine go ?_
  left;simp[m8,pi,bD,dl]
 .repeat' first|refine gq ?_|decide|refine sp ?_ ?_<;>intro _
  all_goals exact aF (by first|rfl|simp[AV.ren,AV.renL])
def gW(x:aw):List Int:=if dI x=true then (if x.la = -1 then [x.ln] else []) ++ (if x.ra = -1 then [x.rn] else []) else []
def bN(l:List aw):List Int:=l.flatMap gW
theorem C1(x:aw):(gW x).length<=2:=by
 unfold gW;split
 .split<;>split<;>simp
 .simp
theorem jq:∀l:List aw,(bN l).length<=2 * l.length
 | []=>by simp[bN]
 | x :: l=>by
  have h1:=C1 x;have h2:=jq l;unfold bN at *;simp only[V4,UW,Vl];omega
theorem qz(l:List aw):zy l (aR (bN l)):=fun x hx hc=>by
 have hm:∀n,n∈gW x->n∈aR (bN l):=fun n hn=>((bm (bN l)).2 n).2 (VP.2 ⟨x,hx,hn⟩);refine⟨fun h=>hm _ ?_,fun h=>hm _ ?_⟩
 .unfold gW;rw[UZ hc,UZ h];simp
 .unfold gW;rw[UZ hc,UZ h];simp
theorem lP(l:List aw)(hl:l.length<=1100000):am Tryz.prog 20 [bf l] ⟨sI (aR (bN l)),[],0⟩:=by
 have hok:(⟨sI (aR (bN l)),[],0⟩:cu).Ok:=⟨fun id o h=>(by cases h),by simp[AV.lt]⟩;refine aa ag Tryz.func20 rfl (by decide) Tryz.ntmps20 Tryz.results20 rfl (hok) ?_;have hlen:=jq l;have hS:=fZ (bN l) (by omega)
 repeat' first|refine go ?_|decide|refine sp ?_ ?_<;>intro _
 refine af (fun st=>∃k:Nat,k<=l.length/\st=⟨59,[(0,bf l),(3,.osl 0),(4,eI (k:Int))],[(0,some (.row 2 1 ((bN (l.take k)).map fun n=>[eI n])))],1⟩) (fun st=>l.length-ax st 4) ⟨_,((bq 3 2 1 (by simp only[iC,aj.get,aX,aj.put,↓reduceIte,reduceCtorEq,Nat.reduceLT,Nat.reduceEqDiff,Nat.reduceAdd,Nat.reduceLeDiff,eq_self,implies_true,Va,bN,V7,Vn])).trans (wS [0] (kf @Va (kf @bN.eq_1 @V7)))),0,UR _,rfl⟩ ?_;rintro _ ⟨k,hk,rfl⟩;by_cases hlt:k<l.length
 .obtain ⟨x,hx⟩:∃x,l[k]=x:=⟨_,rfl⟩
  have hsn:bN (l.take (k+1))=bN (l.take k) ++ gW x:=by
   unfold bN;rw[Xj,p0 hlt,hx];simp
  have htl:(bN (l.take k)).length<=2200000:=by
   have:=jq (l.take k);rw[U2] at this;omega
  obtain⟨op,la,ln,ra,rn,xn,xu⟩:=x;by_cases hc:3<=op/\op<=8
  .have hcm:dI ⟨op,la,ln,ra,rn,xn,xu⟩=true:=(by simp[dI,hc]);have d1:decide (op<3)=false:=by simp only[Vf];omega
   have d2:decide (8<op)=false:=by simp only[Vf];omega
   have hna:gW ⟨op,la,ln,ra,rn,xn,xu⟩=(if la = -1 then [ln] else []) ++ (if ra = -1 then [rn] else []):=by unfold gW;rw[UZ hcm]
   rw[hna] at hsn;by_cases ha:la = -1
   .have ha1:(la == -1)=true:=(by simpa using ha);by_cases hb:ra = -1
    .have hb1:(ra == -1)=true:=(by simpa using hb);rw[UZ ha,UZ hb] at hsn;have hs2:(bN (l.take (k+1))).map (fun n=>[eI n])=((bN (l.take k)).map (fun n=>[eI n]) ++ [[eI ln]]) ++ [[eI rn]]:=by rw[hsn];simp
     repeat' first|refine gq ?_|simp only[ab,hlt,hx,d1,d2,ha1,hb1]|decide|refine sp ?_ ?_<;>intro _|(with_reducible apply And.intro)
     all_goals first
      | rfl
      | omega
      | (simp;omega)
      | exact rI (wS [4] hs2) ⟨k+1,by omega,rfl⟩
    .have hb1:(ra == -1)=false:=(by simpa using hb);rw[UZ ha,UX hb] at hsn;have hs2:(bN (l.take (k+1))).map (fun n=>[eI n])=(bN (l.take k)).map (fun n=>[eI n]) ++ [[eI ln]]:=by rw[hsn];simp
     repeat' first|refine gq ?_|simp only[ab,hlt,hx,d1,d2,ha1,hb1]|decide|refine sp ?_ ?_<;>intro _|(with_reducible apply And.intro)
     all_goals first
      | rfl
      | omega
      | (simp;omega)
      | exact rI (wS [2] hs2) ⟨k+1,by omega,rfl⟩
   .have ha1:(la == -1)=false:=(by simpa using ha);by_cases hb:ra = -1
    .have hb1:(ra == -1)=true:=(by simpa using hb);rw[UX ha,UZ hb] at hsn;have hs2:(bN (l.take (k+1))).map (fun n=>[eI n])=(bN (l.take k)).map (fun n=>[eI n]) ++ [[eI rn]]:=by rw[hsn];simp
     repeat' first|refine gq ?_|simp only[ab,hlt,hx,d1,d2,ha1,hb1]|decide|refine sp ?_ ?_<;>intro _|(with_reducible apply And.intro)
     all_goals first
      | rfl
      | omega
      | (simp;omega)
      | exact rI (wS [2] hs2) ⟨k+1,by omega,rfl⟩
    .have hb1:(ra == -1)=false:=(by simpa using hb);rw[UX ha,UX hb] at hsn;have hs2:(bN (l.take (k+1))).map (fun n=>[eI n])=(bN (l.take k)).map (fun n=>[eI n]):=by rw[hsn];simp
     repeat' first|refine gq ?_|simp only[ab,hlt,hx,d1,d2,ha1,hb1]|decide|refine sp ?_ ?_<;>intro _
     exact rI (wE hs2) ⟨k+1,by omega,rfl⟩
  .have hcm:dI ⟨op,la,ln,ra,rn,xn,xu⟩=false:=by
    rw[VA];intro h;exact hc (by simpa[dI] using h)
   have hna:gW ⟨op,la,ln,ra,rn,xn,xu⟩=[]:=by unfold gW;rw[UX (by simp[hcm])]
   rw[hna,VH] at hsn;have hs2:(bN (l.take (k+1))).map (fun n=>[eI n])=(bN (l.take k)).map (fun n=>[eI n]):=(by rw[hsn])
   repeat' first|refine gq ?_|simp only[ab,hlt,hx]|decide|refine sp ?_ ?_<;>intro _
   all_goals first
    | exact rI (wE hs2) ⟨k+1,by omega,rfl⟩
    | (exfalso;simp at *;omega)
 .obtain rfl:k=l.length:=by omega
  repeat' first|refine ge (kf @hlt @U6) ?_|decide|refine sp ?_ ?_<;>intro _
  refine Ag [0] (R:=⟨sI (aR (bN l)),[],0⟩) ?_ ?_ ?_
  .repeat' first|decide|refine go ?_
   exact hS
  .repeat' first|decide|refine go ?_
   left;simp[m8,pi,bD,dl]
  .repeat' first|refine gq ?_|decide|refine sp ?_ ?_<;>intro _
   all_goals exact aF (by first|rfl|simp[AV.ren,AV.renL])
end
section
theorem tp(st:aj)(id:Nat):ct st (iD st id):=fun cx a w L h=>⟨L,(pG h id).1,fun b hb=>⟨hb.1,hb.2.1,fun k o hk=>by
 unfold iD at hk;split at hk
 .simp only[ae.gc,dr] at hk;split at hk
  .cases hk
  .cases hg:st.tab.get k with
   | none=>simp[hg] at hk
   | some o'=>exact hb.2.2 k o' hg
 .exact hb.2.2 k o hk⟩⟩
end
end
section
section
section
variable {P:Program} {cx:Cx} {a:Act} {w w' w'':World} {st st':aj} {tab tab' tab'':ae} {L L' L'':Nat->Value} {nx nx':Nat}
theorem Fz.refl:Fz w tab L w tab L:=⟨UU _,fun _ _ _=>rfl,fun id o g h1 h2 _=>⟨id,o,h1,h2⟩⟩
theorem Fz.trans(h:Fz w tab L w' tab' L')(k:Fz w' tab' L' w'' tab'' L''):Fz w tab L w'' tab'' L'':=
  ⟨Vj h.size k.size,
   fun j hj hn=>(k.keep j (UY hj h.size) fun id o h1 h2=>(h.young id o j h1 h2 hj).elim fun id2 ⟨o2,h3,h4⟩=>hn id2 o2 h3 h4).trans (h.keep j hj hn),
   fun id o g h1 h2 hg=>(k.young id o g h1 h2 (UY hg h.size)).elim fun id2 ⟨o2,h3,h4⟩=>h.young id2 o2 g h3 h4 hg⟩
theorem Fr.fz(h:Fr cx w tab L nx w' tab' L' nx'):Fz w tab L w' tab' L':=⟨h.size,h.keep,h.young⟩
theorem xP(hw:ct st st')(h:aH cx a w st L):∃L',aH cx a w st' L' /\ Fz w st.tab L w st'.tab L':=by
 obtain⟨L',h1,h2⟩:=hw _ _ _ _ h;refine⟨L',h1,UU _,fun _ _ _=>rfl,fun id o g h3 h4 h5=>?_⟩;refine Classical.byContradiction fun hno=>?_;have hS:Sx cx w st.tab L g:=⟨h5,⟨.inr ((h1.lay.objs id o h3).ge h4).1,fun hX=>(h1.lay.ex g hX).2 id o h3 h4⟩,fun id2 o2 h6 h7=>hno ⟨id2,o2,h6,h7⟩⟩;exact(h2 g hS).2.2 id o h3 h4
theorem ry{ops:Array Oper}{K:aj->Prop}{Q:Exit->Act->World->Prop}{T:Nat->Prop}:∀(l:List Oper)(a:Act)(w:World)(st:aj)(L:Nat->Value),(∀o∈l,Lk o=true/\∀t,T t->o.dst≠some t) ->
  (∀a' w' st' L',K st' -> aH cx a' w' st' L' -> Fz w st.tab L w' st'.tab L' -> cr T a a' -> Q .normal a' w')->aH cx a w st L->lD P ops K l st->wpList P ops Q l a w
 | [],a,w,st,L,_,hQ,h,hp=>hQ a w st L hp h Fz.refl (.refl a)
 | o :: rest,a,w,st,L,hf,hQ,h,hp=>by
  unfold lD at hp;obtain⟨hfo,hdo⟩:=hf o (Vr ..);have hrest:=fun o' (ho':o' ∈rest)=>hf o' (Vx _ ho');refine wpList_step fun K' hK'=>?_;rcases cw h hp o rfl with ⟨hw,st1,h1,h2,e1,e2⟩|⟨hw,st1,h1,h2,e1,e2⟩
  .rw [UZ hw];refine Oper.wp_mono (fun a' w' ⟨⟨st2,L2,h3,h4,h5,h6⟩,h7⟩=>hK' a' w' (ry rest a' w' st2 L2 hrest (fun a3 w3 st3 L3 h8 h9 h10 h11=>hQ a3 w3 st3 L3 h8 h9 ?_ (cr.trans ⟨h6,h7⟩ h11)) h4 h3)) (fC hdo (C0 h2 h1 hfo));have h5:=h5.fz;rw[e1] at h5;exact h5.trans h10
  .rw [UX (by simp[hw])];refine hK' _ _ (ry rest _ w _ L hrest (fun a3 w3 st3 L3 h8 h9 h10 h11=>hQ a3 w3 st3 L3 h8 h9 ?_ (((cr.refl a).put hdo).trans h11)) (bZ h2 o.dst) h1);rw[bJ,e1] at h10;exact h10
theorem Fz.below(hy:∀id o g,tab.get id=some o->aL (L id)=some g->g<w.heap.size)(hb:Below w.heap.size w w'):Fz w tab L w' tab L:=⟨hb.size,fun k hk _=>hb.block k hk,fun id o g h1 h2 _=>⟨id,o,h1,h2⟩⟩
def gp(t:Nat):Code->Bool
 | .skip=>true
 | .region _ ops _=>ops.toList.all fun o=>Lk o && !(o.dst == some t)
 | .seq x y=>gp t x && gp t y
 | .cond _ x y=>gp t x && gp t y
 | .block _ x=>gp t x
 | .loop x=>gp t x
 | .exit _=>true
 | .ret=>true
 | .label _=>true
 | .scope x=>gp t x
 | _=>false
abbrev xT(cx:Cx)(a:Act)(w:World)(tab:ae)(L:Nat->Value)(t:Nat)(Q:Exit->aj->Prop):Exit->Act->World->Prop:=fun e a' w'=>∃st' L',Q e st' /\ aH cx a' w' st' L' /\ Fz w tab L w' st'.tab L' /\ cr (fun k=>k=t) a a'
theorem sZ(hm:P.follows .mixedOrders=true)(t:Nat):∀(c:Code),gp t c=true->∀(Q:Exit->aj->Prop)(a:Act)(w:World)(st:aj)(L:Nat->Value),aH cx a w st L->bt P c Q st->c.wp P (xT cx a w st.tab L t Q) a w:=by
 intro c
 induction c with
 | skip=>exact fun _ Q a w st L h hp=>wp_skip ⟨st,L,hp,h,Fz.refl,.refl a⟩
 | region id ops draw=>
  intro hf Q a w st L h hp;unfold bt HI at hp;simp only[gp,List.all_eq_true,U1] at hf;have hf:∀o∈ops.toList,Lk o=true/\∀k,k=t->o.dst≠some k:=fun o ho=>⟨(hf o ho).1,fun k hk=>by subst hk;simpa using (hf o ho).2⟩;have hT:∀(i:Nat)(o:Oper),ops[i]? = some o->∀k,k=t->o.dst≠some k:=fun i o ho=>(hf o (Array.mem_toList_iff.2 (Array.mem_of_getElem? ho))).2;have hyg:∀id o g,st.tab.get id=some o->aL (L id)=some g->g<w.heap.size:=fun id o g h1 h2=>((h.lay.objs id o h1).ge h2).2
  cases draw with
  | false=>exact wp_region_list (ry (T:=fun k=>k=t) _ a w st L hf (fun a' w' st' L' h1 h2 h3 h4=>⟨st',L',h1,h2,h3,h4⟩) h (by simpa using hp))
  | true=>
   simp only[if_true] at hp;obtain⟨l⟩:=ops;rcases hp with ⟨hB,hp⟩|⟨n,hB,hp⟩|⟨ids,hd,s,hB,K',hK',hids,hp⟩
   .exact wp_region_quiet (C:=fun w'=>Below w.heap.size w w') hm hB ((Below.refl _ _).drew) (mO (L:=L) (T:=fun k=>k=t) (a0:=a) (tab0:=st.tab) (fun a' st' h1 h2 h3 h4 w' hw'=>⟨st',L,h1,fQ h2 hw',by rw[h3];exact Fz.below hyg hw',h4⟩) _ _ _ (fun o ho=>(hf o ho).2) rfl (.refl a) h hp)
   .have h':aH cx a w.drew st L:=fQ h ((Below.refl _ _).drew);have hz:Fz w st.tab L w.drew st.tab L:=Fz.below hyg ((Below.refl _ _).drew);exact wp_region_still_tail n hm hB (rk (T:=fun k=>k=t) (a0:=a) (tab0:=st.tab) (fun a' st' h1 h2 h3 h4=>ry (T:=fun k=>k=t) _ a' w.drew st' L (fun o ho=>hf o (Wa ho)) (fun a2 w2 st2 L2 h5 h6 h7 h8=>⟨st2,L2,h5,h6,hz.trans (by rw[<- h3];exact h7),h4.trans h8⟩) h2 h1) _ _ _ (fun o ho=>(hf o (Vt ho)).2) rfl (.refl a) h' hp)
   .simp only[U1] at hB;have hB:=And.intro hB.1 (Wo hB.2);have h':aH cx a w.drew st L:=fQ h ((Below.refl _ _).drew)
    let G:Nat->Prop:=fun k=>∃id∈ids,aL (L id)=some k
    refine Code.wp_mono (Q:=mN (xT cx a w st.tab L t Q)) (fun e a w hq=>?_) (wp_region_held (S:=fun w'=>mb w.drew.heap.size G w.drew w') hm ?_)
    .cases e<;>first|exact hq|exact hq.elim
    .refine lV (T:=st.tab) (Tz:=fun k=>k=t) (a0:=a) (nx:=st.next) (ids:=ids) hB.1.1 hT s ⟨UU _,fun _ _ _=>rfl⟩ (fun w' b hw' hb o u hu=>?_) (fun listed a' st' hA hT' hN hB' hK h2 fuel hf'=>?_) hd _ _ _ (.refl a) h' rfl rfl hB.1.2 hp _ hB.2
     .have hlt:=World.block_lt_of_cell? w.drew _ hu;refine(World.cell?_of_block (hw'.block b hlt fun⟨id,hid,hbl⟩=>?_)).trans hu;obtain⟨ob,hob⟩:=VY.1 (hids id hid);rcases hb with hb|⟨id',o',hni,hget,hbl'⟩
      .exact hb.2.2 id ob hob hbl
      .exact hni (h.lay.sep id' id o' ob b hget hob hbl' hbl ▸ hid)
     .refine b5 (Q:=xT cx a w st.tab L t Q) (T0:=st.tab) (T:=fun k=>k=t) (a0:=a) (L0:=L) hB.1.1 hT (fun a2 w2 st2 L2 h3 h4 h5 h6 h7 h8=>?_) s listed a' w.drew st' L h2 ⟨UU _,fun _ _ _=>rfl⟩ (fun id o g h3 h4 _=>by
       rw[hT'] at h4;have:=(h.young id o h4).1;omega) (fun id hid g hg=>⟨id,hid,hg⟩) (fun id hid=>by
       obtain⟨ob,hob⟩:=VY.1 (hids id hid);rw[hN];exact(h.young id ob hob).1) ⟨fun _ _=>rfl,by rw[hN];exact UU _,fun id o _ hg=>⟨o,by rw[<- hT'];exact hg⟩,fun id o g _ hni hg hbl=>?_⟩ hA hB' hK fuel hf'
      .obtain ⟨st3,hw3,h9⟩:=hK' st2 h3;obtain⟨L3,h10,h11⟩:=xP hw3 h4;have hG:∀k,G k->∃id o,st.tab.get id=some o/\aL (L id)=some k:=fun k ⟨id,hid,hbl⟩=>(VY.1 (hids id hid)).elim fun ob hob=>⟨id,ob,hob,hbl⟩
       have hz:Fz w st.tab L w2 st2.tab L2:=by
        have hsz:w.drew.heap.size=w.heap.size:=rfl;refine⟨h5.size,fun k hk hn=>h5.block k hk fun hg=>?_,fun id o g h12 h13 h14=>?_⟩
        .obtain ⟨id,ob,h12,h13⟩:=hG k hg;exact hn id ob h12 h13
        .rcases U9 id st.next with hlt|hge
         .obtain ⟨o',ho'⟩:=h7.old id o hlt h12;exact⟨id,o',ho',by rw[<- h7.loc id hlt];exact h13⟩
         .rcases h6 id o g hge h12 h13 with h15|h15
          .have:w.heap.size<=g:=h15;omega
          .exact hG g h15
       exact⟨st3,L3,h9,h10,hz.trans h11,h8⟩
      .refine ⟨((h'.lay.objs id _ hg).ge hbl).2,fun⟨id',hid',hbl'⟩=>hni ?_⟩;obtain⟨ob,hob⟩:=VY.1 (hids id' hid');exact h.lay.sep id id' _ ob g hg hob hbl hbl' ▸ hid'
 | seq x y ihx ihy=>
  intro hf Q a w st L h hp;simp only[gp,U1] at hf;unfold bt at hp;refine wp_seq (Code.wp_mono (fun e a' w' ⟨st',L',h1,h2,h3,h4⟩=>?_) (ihx hf.1 _ a w st L h hp))
  cases e with
  | normal=>exact Code.wp_mono (fun e a2 w2 ⟨st2,L2,k1,k2,k3,k4⟩=>⟨st2,L2,k1,k2,h3.trans k3,h4.trans k4⟩) (ihy hf.2 Q a' w' st' L' h2 h1)
  | _=>exact⟨st',L',h1,h2,h3,h4⟩
 | cond c x y ihx ihy=>
  intro hf Q a w st L h hp;simp only[gp,U1] at hf;unfold bt oX at hp;split at hp
  .rename_i b hb;have hv:=(ak h c).1;rw[hb] at hv;have hv:=hv.c_inv;cases b
   .exact wp_cond_false hv (ihy hf.2 Q a w st L h hp)
   .exact wp_cond_true hv (ihx hf.1 Q a w st L h hp)
  .exact hp.elim
 | block id x ih=>
  intro hf Q a w st L h hp;simp only[gp] at hf;unfold bt at hp;refine wp_block (Code.wp_mono (fun e a' w' ⟨st',L',h1,h2,h3⟩=>?_) (ih hf _ a w st L h hp))
  cases e with
  | exit id'=>
   simp only[ik,Exit.inBlock] at h1 ⊢;split
   .rename_i e;rw[UZ e] at h1;exact⟨st',L',h1,h2,h3⟩
   .rename_i e;rw[UX e] at h1;exact⟨st',L',h1,h2,h3⟩
  | _=>exact⟨st',L',h1,h2,h3⟩
 | loop x ih=>
  intro hf Q a0 w0 PL L0 h hp;simp only[gp] at hf;unfold bt at hp;obtain⟨I,μ,⟨st1,hw1,hI⟩,hr⟩:=hp
  let p:Act->World->Nat->Prop:=fun a w n=>∃st L,I st/\aH cx a w st L/\(Fz w0 PL.tab L0 w st.tab L/\cr (fun k=>k=t) a0 a) /\ μ st=n
  obtain⟨L1,hL1,hz1⟩:=xP hw1 h;refine wp_loop (fun a w=>∃n,p a w n) (fun a w=>lx (p a w)) ⟨_,st1,L1,hI,hL1,⟨hz1,.refl a0⟩,rfl⟩ fun a w hpa=>?_;obtain⟨⟨st,L,h1,h2,⟨h3,h3a⟩,h4⟩,_⟩:=gV hpa;refine Code.wp_mono (fun e a' w' ⟨st',L',h5,h6,h7,h8⟩=>?_) (ih hf _ a w st L h2 (hr st h1))
  cases e with
  | normal=>
   obtain⟨st'',hw,hI'',hlt⟩:=h5;obtain⟨L1,hL1,hz1⟩:=xP hw h6;have hpn:p a' w' (μ st''):=⟨st'',L1,hI'',hL1,⟨(h3.trans h7).trans hz1,h3a.trans h8⟩,rfl⟩;refine⟨⟨_,hpn⟩,?_⟩;have:=(gV ⟨_,hpn⟩).2 _ hpn;show lx (p a' w')<lx (p a w);omega
  | _=>exact⟨st',L',h5,h6,h3.trans h7,h3a.trans h8⟩
 | exit id=>exact fun _ Q a w st L h hp=>wp_exit ⟨st,L,hp,h,Fz.refl,.refl a⟩
 | ret=>exact fun _ Q a w st L h hp=>wp_ret ⟨st,L,hp,h,Fz.refl,.refl a⟩
 | label l=>exact fun _ Q a w st L h hp=>wp_label ⟨st,L,hp,h,Fz.refl,.refl a⟩
 | scope x ih=>
  intro hf Q a w st L h hp;simp only[gp] at hf;unfold bt at hp;refine wp_scope_straight (Code.wp_mono (fun e a' w' ⟨st',L',h1,h2⟩=>?_) (ih hf _ a w st L h hp))
  cases e with
  | goto l=>exact h1
  | _=>exact⟨st',L',h1,h2⟩
 | _=>exact fun hf=>(by cases hf)
end
end
section
def fr(st:aj)(ts:List Nat):List (Nat×AV):=ts.map fun t=>(t,st.get t)
theorem uB(st:aj)(t:Nat):∀ts:List Nat,aX (fr st ts) t=st.get t\/aX (fr st ts) t=.any
 | []=>.inr rfl
 | k :: ts=>by
  show(if t=k then st.get k else aX (fr st ts) t)=_\/(if t=k then st.get k else aX (fr st ts) t)=_;split
  .rename_i e;subst e;exact .inl rfl
  .exact uB st t ts
theorem j5(st:aj):fr st []=[]:=rfl
theorem i9(st:aj)(t:Nat)(ts:List Nat):fr st (t :: ts)=(t,st.get t) :: fr st ts:=rfl
def ol(vs:Array Value)(n nx g:Nat)(K:AV->aj->Prop)(st:aj)(av:AV):Prop:=
 match st.tab.get g with
 | some (.ghost vs' env)=>vs'=vs/\K (av.shift nx) ⟨n,fx nx env,(g+nx,none) :: st.tab.shift nx,nx+st.next⟩
 | _=>False
def zx(P:Program)(rs:List ResultVar)(vs:Array Value)(n nx g:Nat)(K:AV->aj->Prop):Exit->aj->Prop
 | .normal,st=>ci P st rs fun avs=>ol vs n nx g K st (dV avs)
 | .ret,st=>ci P st rs fun avs=>ol vs n nx g K st (dV avs)
 | _,_=>False
section
variable {P:Program} {rs:List ResultVar} {vs:Array Value} {n nx g k i:Nat} {K:AV->aj->Prop} {st:aj} {o:aB} {T:ae}
theorem DU:zx P rs vs n nx g K .normal st=ci P st rs fun avs=>ol vs n nx g K st (dV avs):=rfl
theorem EH:zx P rs vs n nx g K .ret st=ci P st rs fun avs=>ol vs n nx g K st (dV avs):=rfl
theorem cX:ae.shift k []=[]:=rfl
theorem fw:ae.shift k ((i,some o) :: T)=(i+k,some (o.shift k)) :: ae.shift k T:=rfl
theorem fA:ae.shift k ((i,none) :: T)=(i+k,none) :: ae.shift k T:=rfl
end
theorem Cv{n m:Nat}(hnm:n<=m):∀{o:aB},o.lt n->o.lt m
 | .box _ _,h=>ah.2 fun x hx=>AV.lt_mono hnm (ah.1 h x hx)
 | .row _ _ _,_=>trivial
 | .map _,_=>trivial
 | .nest _ _ _,h=>fun row hr=>ah.2 fun x hx=>AV.lt_mono hnm (ah.1 (h row hr) x hx)
 | .ghost _ _,h=>dQ hnm h
theorem yF{n k:Nat}:∀{o:aB},o.lt n->(o.shift k).lt (k+n)
 | .box _ cells,h=>by
  show AV.ltL _ (AV.shiftL k cells);rw[bl];refine ah.2 fun x hx=>?_;obtain⟨y,hy,rfl⟩:=U3.1 hx;exact iw (ah.1 h y hy)
 | .row _ _ _,_=>trivial
 | .map _,_=>trivial
 | .nest _ _ rows,h=>by
  intro row hr;obtain⟨r,hr',rfl⟩:=U3.1 hr;rw[bl];refine ah.2 fun x hx=>?_;obtain⟨y,hy,rfl⟩:=U3.1 hx;exact iw (ah.1 (h r hr') y hy)
 | .ghost _ _,h=>lJ h
theorem Iu(k:Nat)(o:aB):(o.shift k).sz=o.sz:=by cases o<;>simp[aB.shift,aB.sz,bl]
theorem r6{cx:Cx}{a:Act}{w:World}{st:aj}{L:Nat->Value}(h:aH cx a w st L):∀ts:List Nat,cU st.next (fr st ts)
 | []=>trivial
 | t :: ts=>⟨(h.env t).2,r6 h ts⟩
section
variable {P:Program} {cx:Cx} {a:Act} {w:World} {st:aj} {L:Nat->Value}
theorem sC(h:aH cx a w st L):∀(l:List ResultVar)(K:List AV->Prop),ci P st l K ->
  ∃vs avs,K avs/\vs.length=avs.length/\AV.ltL st.next avs/\(∀(j:Nat)(v:Value)(av:AV),vs[j]? = some v->avs[j]? = some av->bL cx w st.tab L v av) /\
   (l.mapM (nE a.tmps):Sem (List Value)).run P w=.ok vs w
 | [],K,hp=>⟨[],[],hp,rfl,trivial,by simp,by simp⟩
 | .tmp t :: l,K,hp=>by
  obtain⟨vs,avs,h1,h2,hl,h3,h4⟩:=sC h l _ hp;refine⟨a.tmps.getD t undef :: vs,st.get t :: avs,h1,by simp[h2],⟨(h.env t).2,hl⟩,fun j v av h5 h6=>?_,?_⟩
  .cases j with
   | zero=>
    cases h5;cases h6;exact(h.env t).1
   | succ j=>exact h3 j v av (by simpa using h5) (by simpa using h6)
  .simp only[List.mapM_cons,nE,Sem.run_bind,Sem.run_pure,Result.andThen_ok,h4]
 | .cell p ty :: l,K,hp=>by
  obtain⟨u,au,h1,h2,h3,h4⟩:=(xQ (nx:=st.next) h.lay (fun id o hid=>(h.young id o hid).2) (h.env p).1 hp).one;obtain⟨vs,avs,h5,h6,hl,h7,h8⟩:=sC h l _ h1;refine⟨u :: vs,au :: avs,h5,by simp[h6],⟨h3,hl⟩,fun j v av h9 h10=>?_,?_⟩
  .cases j with
   | zero=>
    cases h9;cases h10;exact h2
   | succ j=>exact h7 j v av (by simpa using h9) (by simpa using h10)
  .have:=lH (h4 w (Below.refl _ _));simp only[List.mapM_cons,nE];rw[Sem.run_bind,this];simp only[Sem.run_bind,Sem.run_pure,Result.andThen_ok,h8]
theorem Oh{fn:Func}{K:AV->Prop}(h:aH cx a w st L)(hp:ci P st fn.results.toList fun avs=>K (dV avs)):∃v av,K av/\bL cx w st.tab L v av/\av.lt st.next/\(results fn a.tmps).run P w=.ok v w:=by
 obtain⟨vs,avs,h1,h2,hl,h3,h4⟩:=sC h _ _ hp
 have hm:(results fn a.tmps).run P w=.ok (if h:vs.toArray.size=1 then vs.toArray[0] else .tuple vs.toArray) w:=by
  rw[sa,Sem.run_bind,Array.mapM_eq_mapM_toList];simp only[bind_pure_comp,Sem.run_map,h4];rfl
 refine⟨_,dV avs,h1,?_,?_,hm⟩
 .clear hm h4 h1 hl
  match vs,avs,h2,h3 with
  | [v],[av],_,h3=>exact h3 0 v av rfl rfl
  | [],[],_,h3=>exact .tup _ _ rfl (by simp)
  | v :: v' :: vs,av :: av' :: avs,h2,h3=>
   simp only[dV,Xi,Vl];rw[dif_neg (by omega)];exact .tup _ _ (by simpa using h2) fun j x av h4 h5=>h3 j x av (by simpa using h4) h5
 .clear hm h4 h1 h3 h2
  match avs,hl with
  | [av],hl=>exact hl.1
  | [],hl=>exact hl
  | av :: av' :: avs,hl=>exact hl
end
def UH(P:Program)(c:Code)(t:Nat)(Q:Exit->aj->Prop)(st:aj):Prop:=∀(cx:Cx)(a:Act)(w:World)(L:Nat->Value),aH cx a w st L->c.wp P (xT cx a w st.tab L t Q) a w
theorem S1{P:Program}(hm:P.follows .mixedOrders=true){c:Code}{t:Nat}(hz:gp t c=true){Q:Exit->aj->Prop}{st:aj}(h:bt P c Q st):UH P c t Q st:=fun cx a w L hc=>sZ hm t c hz Q a w st L hc h
theorem BG {P : Program} {f : FuncId} {fn : Func} {c : Code} (hf : P.funcs[f]? = some fn) (hb : fn.body = some c) (hname : (fn.name == "runtime.NumGoroutine") = false) {st : aj} {avs : List AV} {K : AV → aj → Prop} {n : Nat} (hnt : fn.ntmps = n) {rs : List ResultVar} (hrs : fn.results = rs.toArray)
  (hn:Nat.ble avs.length n=true) (g:Nat) (ts:List Nat)
  (h:∀vs:Array Value,UH P c n (zx P rs vs st.n st.next g K) ⟨n,b9 0 avs,(st.next,some (.ghost vs (fr st ts))) :: st.tab,st.next+1⟩):Lm P st f avs K:=by
 have hn:=Wo hn;subst hnt;refine⟨fun vs w=>?_,fun cx a w L vs dst hc hvn hv=>?_⟩
 ·have : ¬ fn.name = "runtime.NumGoroutine" := by simpa using hname
  simp[callFunc,Sem.run_bind,hf,this,hb]
 obtain⟨tab2,ht2⟩:∃tab2:ae,tab2=(st.next,some (.ghost a.tmps (fr st ts))) :: st.tab:=⟨_,rfl⟩;have hget:∀id,tab2.get id=if id=st.next then some (.ghost a.tmps (fr st ts)) else st.tab.get id:=fun id=>by rw[ht2,ae.gc]
 have hnone:∀id o,st.next<=id->st.tab.get id=some o->False:=fun id o h1 h2=>by have:=(hc.young id o h2).1;omega
 have hold:∀id,id<st.next->tab2.get id=st.tab.get id/\bp L st.next (.bool false) id=L id:=fun id hid=>⟨by rw[hget,UX (by omega)],by unfold bp;rw[UX (by omega)]⟩;have hLG:bp L st.next (.bool false) st.next=.bool false:=by unfold bp;rw[UZ rfl]
 have hge:∀id o,st.next<=id->tab2.get id=some o->id=st.next/\o=.ghost a.tmps (fr st ts):=fun id o h1 h2=>by
  rw[hget] at h2;split at h2
  .rename_i e;cases h2;exact⟨e,rfl⟩
  .exact (hnone id o h1 h2).elim
 have hnew:∀id o b,st.next<=id->tab2.get id=some o->aL (bp L st.next (.bool false) id)=some b->w.heap.size<=b:=fun id o b h1 h2 h3=>by
  obtain⟨rfl,_⟩:=hge id o h1 h2;rw[hLG] at h3;cases h3
 have hext:=gP (cx:=cx) (Below.refl w.heap.size w) hold (fun id o hid=>(hc.young id o hid).1) hnew
 have hlay:iM cx w tab2 (bp L st.next (.bool false)):=kE hc.lay hc.young (Below.refl _ _) hold (fun id o h1 h2=>by
   obtain⟨rfl,rfl⟩:=hge id o h1 h2;refine⟨hLG,fun t ht=>?_⟩;rcases uB st t ts with e|e
   .rw [e];exact hext.rv (hc.env t).1 (hc.env t).2
   .rw [e];exact .tree (.any _)) hnew fun id id' o o' b h1 h2 h3 h4 _ _=>by rw[(hge id o h1 h3).1,(hge id' o' h2 h4).1]
 have hyoung:∀id o,tab2.get id=some o->id<st.next+1/\o.lt (st.next+1):=fun id o hid=>by
  rcases U9 id st.next with hlt|hge'
  .rw [(hold id hlt).1] at hid;have:=hc.young id o hid;exact⟨by omega,Cv (VF _) this.2⟩
  .obtain ⟨rfl,rfl⟩:=hge id o hge' hid;exact⟨VT _,dQ (VF _) (r6 hc ts)⟩
 have hC:aH cx { tmps:=vs ++ Array.replicate (fn.ntmps-vs.size) undef,defers:=[] } w ⟨fn.ntmps,b9 0 avs,tab2,st.next+1⟩ (bp L st.next (.bool false)):=by
  refine⟨hlay,?_,i6.nil _ _ _,hyoung,fun t=>?_⟩
  .simp;omega
  have e:(⟨fn.ntmps,b9 0 avs,tab2,st.next+1⟩:aj).get t=avs.getD t .any:=by
   show(if t<fn.ntmps then aX (b9 0 avs) t else .any)=_;rw[fU];split
   .simp
   .simp [List.getD,Vh (show avs.length<=t by omega)]
  rw[e];by_cases ht:t<avs.length
  .have ht':t<vs.size:=by omega
   have e2:(vs ++ Array.replicate (fn.ntmps-vs.size) undef).getD t undef=vs[t]:=by
    rw[VG,VQ ht',UT ht'];rfl
   have e3:avs.getD t .any=avs[t]:=(by simp[List.getD,ht]);rw[e2,e3];have:=hv t _ _ (UT ht') (p0 ht);exact⟨hext.rv this.1 this.2,AV.lt_mono (VF _) this.2⟩
  .have e3:avs.getD t .any=.any:=(by simp[List.getD,Vh (W9 ht)]);rw[e3];exact⟨.tree (.any _),trivial⟩
 have hcode:=h a.tmps;rw[<- ht2] at hcode;refine calls_of_wp hf hb (Code.wp_mono (fun ex a' w' ⟨st',L',h1,h2,h3,hA⟩=>?_) (hcode cx _ w _ hC))
 have hown2:∀b,(∀id o,st.tab.get id=some o->aL (L id)≠some b)->∀id o,tab2.get id=some o->aL (bp L st.next (.bool false) id)≠some b:=fun b hb id o hid hg=>by
  rcases U9 id st.next with hlt|hge'
  .rw [(hold id hlt).1] at hid;rw[(hold id hlt).2] at hg;exact hb id o hid hg
  .obtain ⟨rfl,_⟩:=hge id o hge' hid;rw[hLG] at hg;cases hg
 have hback:∀id o b,tab2.get id=some o->aL (bp L st.next (.bool false) id)=some b->∃id2 o2,st.tab.get id2=some o2/\aL (L id2)=some b:=fun id o b hid hg=>by
  rcases U9 id st.next with hlt|hge'
  .rw [(hold id hlt).1] at hid;rw[(hold id hlt).2] at hg;exact⟨id,o,hid,hg⟩
  .obtain ⟨rfl,_⟩:=hge id o hge' hid;rw[hLG] at hg;cases hg
 have key:(ci P st' rs fun avs=>ol a.tmps st.n st.next g K st' (dV avs))->a'.defers=[]/\∃u,(results fn a'.tmps).run P w'=.ok u w' /\ ∃v av st'' L'',Ending.returned u=.returned v/\K av st'' /\ aH cx (a.put dst v) w' (st''.put dst av) L'' /\ Fr cx w st.tab L st.next w' st''.tab L'' st''.next:=fun h1=>by
  obtain⟨v,av,hbk,hrv,hlv,hrun⟩:=Oh (K:=fun av=>ol a.tmps st.n st.next g K st' av) (fn:=fn) h2 (by rw[hrs];exact h1);refine⟨hA.defers,v,hrun,?_⟩;unfold ol at hbk;split at hbk
  case h_2=>exact hbk.elim
  rename_i vs' env hg;obtain⟨rfl,hK⟩:=hbk;obtain⟨_,hgh⟩:=h2.lay.objs g _ hg;have hghl:=(h2.young g _ hg).2;obtain⟨tab3,ht3⟩:∃tab3:ae,tab3=(g+st.next,none) :: st'.tab.shift st.next:=⟨_,rfl⟩;rw[<- ht3] at hK
  have hsh:∀id,(ae.shift st.next st'.tab).get id=if id<st.next then none else (st'.tab.get (id-st.next)).map (aB.shift st.next):=fun id=>by
   have:=mK (tab:=[]) (k:=st.next) (fun id o h=>by cases h) st'.tab id;rw[VH] at this;exact this
  have hget3:∀id o,tab3.get id=some o->st.next<=id/\∃o',st'.tab.get (id-st.next)=some o' /\ o=o'.shift st.next:=fun id o hid=>by
   rw[ht3,ae.gc] at hid;split at hid
   .cases hid
   .rw [hsh] at hid;split at hid
    .cases hid
    .rename_i hlt
     cases ho:st'.tab.get (id-st.next) with
     | none=>rw[ho] at hid;cases hid
     | some o'=>
      rw[ho] at hid;cases hid;exact⟨by omega,o',rfl,rfl⟩
  have hS3:∀b,Sx cx w' st'.tab L' b->Sx cx w' tab3 (fun id=>L' (id-st.next)) b:=fun b hb=>⟨hb.1,hb.2.1,fun id o hid hg=>by
   obtain⟨_,o',h4,_⟩:=hget3 id o hid;exact hb.2.2 _ o' h4 hg⟩
  have hK3:∀id p,Kx tab3 (fun id=>L' (id-st.next)) (id+st.next)=some p->Kx st'.tab L' id=some p:=fun id p hk=>by
   unfold Kx at *
   cases ho:tab3.get (id+st.next) with
   | none=>rw[ho] at hk;cases hk
   | some o=>
    obtain⟨_,o',h4,h5⟩:=hget3 _ o ho;rw[Wm] at h4;rw[ho] at hk;rw[h4];simp only[Vz,Wm,h5,Iu] at hk ⊢;exact hk
  have hrv3:∀{x av},bL cx w' st'.tab L' x av->bL cx w' tab3 (fun id=>L' (id-st.next)) x (av.shift st.next):=fun hr=>hr.conv (.inl hS3) hK3
  have hlay3:iM cx w' tab3 (fun id=>L' (id-st.next)):=by
   refine⟨h2.lay.below,fun id o hid=>?_,fun id id' o o' b h4 h5 h6 h7=>?_,fun b hb=>⟨(h2.lay.ex b hb).1,fun id o hid=>?_⟩⟩
   .obtain ⟨_,o',h4,rfl⟩:=hget3 id o hid;have hob:=h2.lay.objs _ o' h4
    cases o' with
    | box t cells=>
     obtain⟨g',cs,h5,h6,h7,h8,h9⟩:=hob;refine⟨g',cs,h5,h6,h7,by simpa[bl] using h8,fun j x av h10 h11=>?_⟩;rw[bl,UV] at h11
     cases hj:cells[j]? with
     | none=>simp[hj] at h11
     | some av'=>
      simp[hj] at h11;subst h11;exact⟨hrv3 (h9 j x av' h10 hj).1,(h9 j x av' h10 hj).2⟩
    | row e sz rows=>
     obtain⟨h5,xs,h6,h7,h8⟩:=hob;refine⟨h5,xs,h6,h7,fun i j row av h9 h10=>?_⟩;obtain⟨x,hx,hrt⟩:=h8 i j row av h9 h10;exact⟨x,hx,hrt.mono (fun _ _=>rfl) hS3⟩
    | map ents=>exact hob
    | nest e sz rows=>
     obtain⟨h5,xs,h6,h7,h8⟩:=hob;refine⟨fun row hr=>?_,xs,by rw[Vd];exact h6,h7,fun i j row av h9 h10=>?_⟩
     .obtain ⟨r,hr',rfl⟩:=U3.1 hr;rw[bl,Vd];exact h5 r hr'
     .rw [UV] at h9
      cases hi:rows[i]? with
      | none=>simp[hi] at h9
      | some row'=>
       simp[hi] at h9;subst h9;rw[bl,UV] at h10
       cases hj:row'[j]? with
       | none=>simp[hj] at h10
       | some av'=>
        simp[hj] at h10;subst h10;obtain⟨x,hx,hr⟩:=h8 i j row' av' hi hj;exact⟨x,hx,hrv3 hr⟩
    | ghost vs2 env2=>
     refine⟨hob.1,fun t ht=>?_⟩;rw[i8];exact hrv3 (hob.2 t ht)
   .obtain ⟨k1,o1,h8,_⟩:=hget3 id o h4;obtain⟨k2,o2,h9,_⟩:=hget3 id' o' h5;have:=h2.lay.sep _ _ o1 o2 b h8 h9 h6 h7;omega
   .obtain ⟨_,o',h4,_⟩:=hget3 id o hid;exact(h2.lay.ex b hb).2 _ o' h4
  have hblk:∀b,Sx cx w st.tab L b->w'.heap[b]? = w.heap[b]?:=fun b hb=>h3.keep b hb.1 (hown2 b hb.2.2)
  have hsub:∀b,Sx cx w st.tab L b->Sx cx w' tab3 (fun id=>L' (id-st.next)) b:=fun b hb=>⟨UY hb.1 h3.size,hb.2.1,fun id o hid hg=>by
   obtain⟨_,o',h4,_⟩:=hget3 id o hid;obtain⟨id2,o2,h5,h6⟩:=h3.young _ o' b h4 hg hb.1;exact hown2 b hb.2.2 id2 o2 h5 h6⟩
  have hC3:aH cx a w' ⟨st.n,fx st.next env,tab3,st.next+st'.next⟩ (fun id=>L' (id-st.next)):=by
   refine⟨hlay3,hc.size,hc.defers.mono hblk hsub,fun id o hid=>?_,fun t=>?_⟩
   .obtain ⟨h4,o',h5,rfl⟩:=hget3 id o hid;have:=h2.young _ o' h5;refine⟨?_,yF this.2⟩;show id<st.next+st'.next;omega
   .show bL cx w' tab3 _ _ (if t<st.n then aX (fx st.next env) t else .any)/\AV.lt _ (if t<st.n then aX (fx st.next env) t else .any);split
    .rename_i htn;rw[i8];exact⟨hrv3 (hgh t (by rw[hc.size];exact htn)),iw (fX hghl t)⟩
    .exact ⟨.tree (.any _),trivial⟩
  refine⟨v,_,_,_,rfl,hK,bh hC3 (hrv3 hrv) (iw hlv) dst,⟨⟨hblk,hsub,fun id p hid hk=>?_⟩,h3.size,fun k hk hn=>h3.keep k hk (hown2 k hn),fun id o b h4 h5 h6=>?_,WO _ _⟩⟩
  .unfold Kx at hk
   cases ho:tab3.get id with
   | none=>rw[ho] at hk;cases hk
   | some o=>
    have:=(hget3 id o ho).1;omega
  .obtain ⟨_,o',h7,_⟩:=hget3 id o h4;obtain⟨id2,o2,h8,h9⟩:=h3.young _ o' b h7 h5 h6;exact hback id2 o2 b h8 h9
 cases ex with
 | normal=>exact key h1
 | ret=>exact key h1
 | _=>exact h1.elim
theorem zw {P : Program} (hm : P.follows .mixedOrders = true) {f : FuncId} {fn : Func} {c : Code} (hf : P.funcs[f]? = some fn) (hb : fn.body = some c) (hname : (fn.name == "runtime.NumGoroutine") = false) {st : aj} {avs : List AV} {K : AV → aj → Prop} {n : Nat} (hnt : fn.ntmps = n) {rs : List ResultVar} (hrs : fn.results = rs.toArray)
  (hn:Nat.ble avs.length n=true) (hz:gp n c=true) (g:Nat) (ts:List Nat)
  (h:∀vs:Array Value,bt P c (zx P rs vs st.n st.next g K) ⟨n,b9 0 avs,(st.next,some (.ghost vs (fr st ts))) :: st.tab,st.next+1⟩):Lm P st f avs K:=
 BG hf hb hname hnt hrs hn g ts fun vs=>S1 hm hz (h vs)
theorem oJ {P : Program} (hm : P.follows .mixedOrders = true) {f : FuncId} {fn : Func} {c : Code} (hf : P.funcs[f]? = some fn) (hb : fn.body = some c) (hname : (fn.name == "runtime.NumGoroutine") = false) {st : aj} {avs : List AV} {K : AV → aj → Prop} {n : Nat} (hnt : fn.ntmps = n) {rs : List ResultVar} (hrs : fn.results = rs.toArray)
  (hn:Nat.ble avs.length n=true) (hz:gp n c=true) (ts:List Nat)
  (h:∀vs:Array Value,bt P c (zx P rs vs st.n st.next st.next K) ⟨n,b9 0 avs,(st.next,some (.ghost vs (fr st ts))) :: st.tab,st.next+1⟩):Lm P st f avs K:=
 zw hm hf hb hname hnt hrs hn hz st.next ts h
theorem Pw{cx:Cx}{a:Act}{w:World}{st st':aj}{L L':Nat->Value}(h1:aH cx a w st' L')(h2:∀b,Sx cx w st.tab L b->Sx cx w st'.tab L' b):Fz w st.tab L w st'.tab L':=by
 refine⟨UU _,fun _ _ _=>rfl,fun id o g h3 h4 h5=>?_⟩;refine Classical.byContradiction fun hno=>?_;have hS:Sx cx w st.tab L g:=⟨h5,⟨.inr ((h1.lay.objs id o h3).ge h4).1,fun hX=>(h1.lay.ex g hX).2 id o h3 h4⟩,fun id2 o2 h6 h7=>hno ⟨id2,o2,h6,h7⟩⟩;exact(h2 g hS).2.2 id o h3 h4
theorem xy {P : Program} (hm : P.follows .mixedOrders = true) {f : FuncId} {fn : Func} {c : Code} (hf : P.funcs[f]? = some fn) (hb : fn.body = some c) (hname : (fn.name == "runtime.NumGoroutine") = false) {n : Nat} (hnt : fn.ntmps = n) {rs : List ResultVar} (hrs : fn.results = rs.toArray)
  {t:TypeId} {cells:List AV} {objs:List aB} {rest:List AV} {Post:AV->List AV->List aB->Prop} (hn:Nat.ble (rest.length+1) n=true) (hz:gp 0 c=true) (hlt:AV.ltL (objs.length+1) cells) (hpl:∀o∈objs,dF o)
  (h:bt P c (PF P rs t cells.length Post) ⟨n,b9 0 (.op 0 0 0 :: rest),cz 0 (.box t cells :: objs),objs.length+1⟩):IL P f t cells objs rest Post:=by
 have hn:=Wo hn;subst hnt;refine⟨fun vs w=>?_,hlt,fun cx w L vs hlay hvn hv0 hvr=>?_⟩
 ·have : ¬ fn.name = "runtime.NumGoroutine" := by simpa using hname
  simp[callFunc,Sem.run_bind,hf,this,hb]
 obtain⟨tab0,ht0⟩:∃tab0,tab0=cz 0 (aB.box t cells :: objs):=⟨_,rfl⟩;rw[<- ht0] at hlay hvr h ⊢;have hget0:tab0.get 0=some (.box t cells):=by rw[ht0,fN];rfl
 obtain⟨g,cs,hLb,_,hheap,_⟩:=hlay.objs 0 _ hget0;have hvz:∃x,vs[0]? = some x:=⟨_,UT (by omega)⟩;obtain⟨x0,hx0⟩:=hvz;obtain rfl:=hv0 x0 hx0
 have hC:aH cx { tmps:=vs ++ Array.replicate (fn.ntmps-vs.size) undef,defers:=[] } w ⟨fn.ntmps,b9 0 (.op 0 0 0 :: rest),tab0,objs.length+1⟩ L:=by
  refine⟨hlay,?_,i6.nil _ _ _,fun id o ho=>?_,fun k=>?_⟩
  .simp;omega
  .rw [ht0,fN] at ho;simp only[UR,if_true,Nat.sub_zero] at ho;have hlen:=(US.1 ho).1;refine⟨by simpa using hlen,?_⟩
   cases id with
   | zero=>
    simp at ho;subst ho;exact hlt
   | succ id=>exact p8 (hpl o (r2 (by simpa using ho))) _
  have e:(⟨fn.ntmps,b9 0 (.op 0 0 0 :: rest),tab0,objs.length+1⟩:aj).get k=(AV.op 0 0 0 :: rest).getD k .any:=by
   show(if k<fn.ntmps then aX (b9 0 (.op 0 0 0 :: rest)) k else .any)=_;rw[fU];split
   .simp
   .simp [List.getD,Vh (show(AV.op 0 0 0 :: rest).length<=k by simp;omega)]
  rw[e];by_cases hlt':k<rest.length+1
  .have ht':k<vs.size:=by omega
   have e2:(vs ++ Array.replicate (fn.ntmps-vs.size) undef).getD k undef=vs[k]:=by
    rw[VG,VQ ht',UT ht'];rfl
   rw[e2]
   cases k with
   | zero=>
    have e3:vs[0]=L 0:=by
     have h0:vs[0]? = some vs[0]:=UT (by omega);exact Wk (h0.symm.trans hx0)
    rw[e3,hLb]
    exact⟨.op _ 0 0 0 fun sz v' hk=>by
     simp[Kx,hget0,hLb] at hk;rw[<- hk.2];exact⟨g,rfl,by simp⟩,Nat.succ_pos _⟩
   | succ k=>
    have hr:k<rest.length:=(by omega);have e4:(AV.op 0 0 0 :: rest).getD (k+1) .any=rest[k]:=(by simp[List.getD,hr]);rw[e4];have:=hvr k _ _ (UT ht') (p0 hr);exact⟨.tree this,this.lt _⟩
  .have e3:(AV.op 0 0 0 :: rest).getD k .any=.any:=(by simp[List.getD,Vh (show(AV.op 0 0 0 :: rest).length<=k by simp;omega)]);rw[e3];exact⟨.tree (.any _),trivial⟩
 refine calls_of_wp hf hb (Code.wp_mono (fun ex a' w' ⟨st',L',h1,h2,h3,hA⟩=>?_) (sZ hm 0 c hz _ _ w _ _ hC h))
 have h50:a'.tmps.getD 0 undef=L 0:=by
  rw[hA.slots 0 rfl,VG,VQ (by omega),hx0];rfl
 have key:(ci P st' rs fun avs=>∃cells' objs',Post (dV avs) cells' objs' /\ pi (dV avs)/\(cells'.length=cells.length/\AV.ltL (objs'.length+1) cells' /\ ∀o∈objs',dF o)/\ct st' ⟨st'.n,[(0,.op 0 0 0)],cz 0 (.box t cells' :: objs'),objs'.length+1⟩) ->
   a'.defers=[]/\∃u,(results fn a'.tmps).run P w'=.ok u w' /\ ∃v av cells' objs' L',Ending.returned u=.returned v/\Post av cells' objs' /\ iM cx w' (cz 0 (.box t cells' :: objs')) L' /\ RT w' (Sx cx w' (cz 0 (.box t cells' :: objs')) L') v av/\L' 0=L 0/\cells'.length=cells.length /\
   AV.ltL (objs'.length+1) cells' /\ (∀o∈objs',dF o)/\Fz w tab0 L w' (cz 0 (.box t cells' :: objs')) L':=fun h1=>by
  obtain⟨u,av,⟨cells',objs',hPost,hro,⟨hl1,hl2,hl3⟩,hw⟩,hrv,hrun⟩:=wQ (K:=fun av=>∃cells' objs',Post av cells' objs' /\ pi av/\(cells'.length=cells.length/\AV.ltL (objs'.length+1) cells' /\ ∀o∈objs',dF o)/\ct st' ⟨st'.n,[(0,.op 0 0 0)],cz 0 (.box t cells' :: objs'),objs'.length+1⟩) (fn:=fn) h2 (by rw[hrs];exact h1);obtain⟨L2,hC2,hS2⟩:=hw _ _ _ _ h2;refine⟨hA.defers,u,hrun,u,av,cells',objs',L2,rfl,hPost,hC2.lay,(KL hrv hro).mono (fun _ _=>rfl) hS2,?_,hl1,hl2,hl3,h3.trans (Pw hC2 hS2)⟩;have hget2:(cz 0 (aB.box t cells' :: objs')).get 0=some (.box t cells'):=by rw[fN];rfl
  obtain⟨g2,cs2,hL2,_⟩:=hC2.lay.objs 0 _ hget2;have hr:=(hC2.env 0).1
  have e5:(⟨st'.n,[(0,.op 0 0 0)],cz 0 (.box t cells' :: objs'),objs'.length+1⟩:aj).get 0=.op 0 0 0:=by
   have:0<st'.n:=by
    have h6:=h2.size;refine Nat.pos_of_ne_zero fun h7=>?_;have h8:a'.tmps = #[]:=Array.eq_empty_of_size_eq_zero (by omega);rw[h8,hLb] at h50;cases h50
   simp[aj.get,aX,this]
  rw[e5,h50] at hr;obtain⟨g3,hg3,he⟩:=hr.op_inv _ _ (cN hget2);rw[hL2] at hg3 ⊢;cases hg3;rw[he];simp
 cases ex with
 | normal=>exact key h1
 | ret=>exact key h1
 | _=>exact h1.elim
theorem n7(l:List Nat):∀{cs:List AV},bD cs->AV.renL l cs=cs
 | [],_=>rfl
 | a :: cs,h=>by
  have h1:dl a:=h.1;have h2:=n7 l (cs:=cs) h.2;show a.ren l :: AV.renL l cs=a :: cs;rw[h2];cases a<;>first|rfl|exact(h1:False).elim
theorem QN(l:List Nat){a:AV}(h:pi a):a.ren l=a:=by
 cases a with
 | osl=>exact h.elim
 | op=>exact h.elim
 | tup=>exact h.elim
 | agg cs=>show AV.agg _=_;rw[n7 l h]
 | fn f cs=>show AV.fn f _=_;rw[n7 l h]
 | bfn f cs=>show AV.bfn f _=_;rw[n7 l h]
 | _=>rfl
theorem D3(l:List Nat):∀{cs:List AV},m8 cs->AV.renL l cs=cs
 | [],_=>rfl
 | a :: cs,h=>by
  show a.ren l :: AV.renL l cs=a :: cs;rw[QN l h.1,D3 l h.2]
theorem IL.toA{P:Program}{f:FuncId}{t:TypeId}{cells:List AV}{objs:List aB}{rest:List AV}{Post:AV->List AV->List aB->Prop}(h:IL P f t cells objs rest Post)(hro:m8 rest):y8 P f t cells objs (.op 0 0 0 :: rest) Post:=
 ⟨h.1,h.2.1,fun cx w L vs hlay hn hv=>h.2.2 cx w L vs hlay (by simpa using hn) (fun x hx=>by
  have hget0:(cz 0 (aB.box t cells :: objs)).get 0=some (.box t cells):=by rw[fN];rfl
  obtain⟨g,h1,h2⟩:=(hv 0 x _ hx rfl).op_inv _ _ (cN hget0);obtain⟨g',cs,h3,_⟩:=hlay.objs 0 _ hget0;rw[h3] at h1 ⊢;cases h1;simpa using h2) (fun j x av hx hav=>KL (hv (j+1) x av hx (by simpa using hav)) (xr.1 hro av (r2 hav)))⟩
theorem AI{u:Option (Nat×List Nat)}{P:Program}{st:aj}{f:FuncId}{K:AV->aj->Prop}{t:TypeId}{cells:List AV}{objs:List aB}{args avs:List AV}{Post:AV->List AV->List aB->Prop}{b:Nat}(ids:List Nat)(h:y8 P f t cells objs args Post)(he:avs=AV.renL (b :: ids) args)
  (hb:st.tab.get b=some (.box t (AV.renL (b :: ids) cells))) (ho:rO st.tab ids objs) (hd:(b :: ids).Nodup) (hu:∀p,u=some p->∀id∈b :: ids,pA p.1 p.2 id)
  (hk:∀av cells' objs',Post av cells' objs' -> K av { st with tab:=kx st b ids t cells' objs',next:=st.next+objs'.length }):gb u P st f avs K:=
 .inr (.inr (.inl ⟨t,cells,objs,args,Post,b,ids,h,he,hb,ho,hd,hu,hk⟩))
theorem EM{u:Option (Nat×List Nat)}{P:Program}{st:aj}{f:FuncId}{K:AV->aj->Prop}{t:TypeId}{cells:List AV}{objs:List aB}{rest:List AV}{Post:AV->List AV->List aB->Prop}{b:Nat}(ids:List Nat)(h:IL P f t cells objs rest Post)(hro:m8 rest)
  (hb:st.tab.get b=some (.box t (AV.renL (b :: ids) cells))) (ho:rO st.tab ids objs) (hd:(b :: ids).Nodup) (hu:∀p,u=some p->∀id∈b :: ids,pA p.1 p.2 id)
  (hk:∀av cells' objs',Post av cells' objs' -> K av { st with tab:=kx st b ids t cells' objs',next:=st.next+objs'.length }):gb u P st f (.op b 0 0 :: rest) K:=
 AI ids (h.toA hro) (by show _=AV.ren _ (.op 0 0 0) :: AV.renL _ rest;rw[D3 _ hro];rfl) hb ho hd hu hk
def Q7(av:AV):Prop:=∀(w w':World)(S S':Nat->Prop)(K K':Nat->Option (Nat×Value))(x v v':Value)(s s':Nat),RV w S K x av->RV w' S' K' x av->K 0=some (s,v)->K' 0=some (s',v')->aL v=aL v'
theorem Ss(i j:Nat):Q7 (.op 0 i j):=fun w w' S S' K K' x v v' s s' h h' hk hk'=>by
 obtain⟨g,h1,h2⟩:=h.op_inv _ _ hk;obtain⟨g',h3,h4⟩:=h'.op_inv _ _ hk';rw[h2] at h4;simp at h4;rw[h1,h3,h4.1]
theorem wn{w:World}{S:Nat->Prop}{K:Nat->Option (Nat×Value)}{x:Value}{f:FuncId}{a:AV}(h:RV w S K x (.bfn f [a])):∃y,x=.func (.func f) #[y] #[]/\RV w S K y a:=by
 cases h with
 | tree h=>
  cases h with
  | bfn _ xs _ hn hr=>
   have h0:xs[0]? = some (xs[0]'(by simp at hn;omega)):=UT _;refine⟨xs[0]'(by simp at hn;omega),?_,.tree (hr 0 _ _ h0 rfl)⟩
   congr 1
   apply XB (by simpa using hn);intro i h1 h2;simp at h2;subst h2;rfl
 | bfn _ xs _ hn hr=>
  have h0:xs[0]? = some (xs[0]'(by simp at hn;omega)):=UT _;refine⟨xs[0]'(by simp at hn;omega),?_,hr 0 _ _ h0 rfl⟩
  congr 1
  apply XB (by simpa using hn);intro i h1 h2;simp at h2;subst h2;rfl
theorem MD(f:FuncId)(i j:Nat):Q7 (.bfn f [.op 0 i j]):=fun w w' S S' K K' x v v' s s' h h' hk hk'=>by
 obtain⟨y,rfl,h1⟩:=wn h;obtain⟨y',h2,h3⟩:=wn h';cases h2;exact Ss i j w w' S S' K K' y v v' s s' h1 h3 hk hk'
theorem ud {P : Program} (hm : P.follows .mixedOrders = true) {f : FuncId} {fn : Func} {c : Code} (hf : P.funcs[f]? = some fn) (hb : fn.body = some c) (hname : (fn.name == "runtime.NumGoroutine") = false) {n : Nat} (hnt : fn.ntmps = n) {rs : List ResultVar} (hrs : fn.results = rs.toArray)
  {t:TypeId} {cells:List AV} {objs:List aB} {args:List AV} {Post:AV->List AV->List aB->Prop} (r:Nat) (av0:AV) (hr:args[r]? = some av0) (hpin:Q7 av0) (hundef:∀{cx:Cx} {w:World} {tab:ae} {L:Nat->Value},bL cx w tab L undef av0->False) (hn:Nat.ble args.length n=true) (hz:gp r c=true) (hlt:AV.ltL (objs.length+1) cells) (hla:AV.ltL (objs.length+1) args) (hpl:∀o∈objs,dF o)
  (h:bt P c (IK P rs t cells.length r av0 Post) ⟨n,b9 0 args,cz 0 (.box t cells :: objs),objs.length+1⟩):y8 P f t cells objs args Post:=by
 have hn:=Wo hn;subst hnt;refine⟨fun vs w=>?_,hlt,fun cx w L vs hlay hvn hv=>?_⟩
 ·have : ¬ fn.name = "runtime.NumGoroutine" := by simpa using hname
  simp[callFunc,Sem.run_bind,hf,this,hb]
 obtain⟨tab0,ht0⟩:∃tab0,tab0=cz 0 (aB.box t cells :: objs):=⟨_,rfl⟩;rw[<- ht0] at hlay hv h ⊢;have hget0:tab0.get 0=some (.box t cells):=by rw[ht0,fN];rfl
 obtain⟨g,cs,hLb,_,hheap,_⟩:=hlay.objs 0 _ hget0
 have hC:aH cx { tmps:=vs ++ Array.replicate (fn.ntmps-vs.size) undef,defers:=[] } w ⟨fn.ntmps,b9 0 args,tab0,objs.length+1⟩ L:=by
  refine⟨hlay,?_,i6.nil _ _ _,fun id o ho=>?_,fun k=>?_⟩
  .simp;omega
  .rw [ht0,fN] at ho;simp only[UR,if_true,Nat.sub_zero] at ho;have hlen:=(US.1 ho).1;refine⟨by simpa using hlen,?_⟩
   cases id with
   | zero=>
    simp at ho;subst ho;exact hlt
   | succ id=>exact p8 (hpl o (r2 (by simpa using ho))) _
  have e:(⟨fn.ntmps,b9 0 args,tab0,objs.length+1⟩:aj).get k=args.getD k .any:=by
   show(if k<fn.ntmps then aX (b9 0 args) k else .any)=_;rw[fU];split
   .simp
   .simp [List.getD,Vh (show args.length<=k by omega)]
  rw[e];by_cases hlt':k<args.length
  .have ht':k<vs.size:=by omega
   have e2:(vs ++ Array.replicate (fn.ntmps-vs.size) undef).getD k undef=vs[k]:=by
    rw[VG,VQ ht',UT ht'];rfl
   rw[e2];have e4:args.getD k .any=args[k]:=(by simp[List.getD,hlt']);rw[e4];exact⟨hv k _ _ (UT ht') (p0 hlt'),ah.1 hla _ (UQ hlt')⟩
  .have e3:args.getD k .any=.any:=(by simp[List.getD,Vh (W9 hlt')]);rw[e3];exact⟨.tree (.any _),trivial⟩
 have hrl:r<args.length:=(US.1 hr).1;have hrv:r<vs.size:=by omega
 have hx0:vs[r]? = some vs[r]:=UT hrv;refine calls_of_wp hf hb (Code.wp_mono (fun ex a' w' ⟨st',L',h1,h2,h3,hA⟩=>?_) (sZ hm r c hz _ _ w _ _ hC h))
 have h50:a'.tmps.getD r undef=vs[r]:=by
  rw[hA.slots r rfl,VG,VQ hrv,hx0];rfl
 have key:(ci P st' rs fun avs=>∃cells' objs',Post (dV avs) cells' objs' /\ pi (dV avs)/\(cells'.length=cells.length/\AV.ltL (objs'.length+1) cells' /\ ∀o∈objs',dF o)/\ct st' ⟨st'.n,[(r,av0)],cz 0 (.box t cells' :: objs'),objs'.length+1⟩) ->
   a'.defers=[]/\∃u,(results fn a'.tmps).run P w'=.ok u w' /\ ∃v av cells' objs' L',Ending.returned u=.returned v/\Post av cells' objs' /\ iM cx w' (cz 0 (.box t cells' :: objs')) L' /\ RT w' (Sx cx w' (cz 0 (.box t cells' :: objs')) L') v av/\L' 0=L 0/\cells'.length=cells.length /\
   AV.ltL (objs'.length+1) cells' /\ (∀o∈objs',dF o)/\Fz w tab0 L w' (cz 0 (.box t cells' :: objs')) L':=fun h1=>by
  obtain⟨u,av,⟨cells',objs',hPost,hro,⟨hl1,hl2,hl3⟩,hw⟩,hrv2,hrun⟩:=wQ (K:=fun av=>∃cells' objs',Post av cells' objs' /\ pi av/\(cells'.length=cells.length/\AV.ltL (objs'.length+1) cells' /\ ∀o∈objs',dF o)/\ct st' ⟨st'.n,[(r,av0)],cz 0 (.box t cells' :: objs'),objs'.length+1⟩) (fn:=fn) h2 (by rw[hrs];exact h1);obtain⟨L2,hC2,hS2⟩:=hw _ _ _ _ h2;refine⟨hA.defers,u,hrun,u,av,cells',objs',L2,rfl,hPost,hC2.lay,(KL hrv2 hro).mono (fun _ _=>rfl) hS2,?_,hl1,hl2,hl3,h3.trans (Pw hC2 hS2)⟩;have hget2:(cz 0 (aB.box t cells' :: objs')).get 0=some (.box t cells'):=by rw[fN];rfl
  obtain⟨g2,cs2,hL2,_⟩:=hC2.lay.objs 0 _ hget2;have hrr:=(hC2.env r).1
  have e5:(⟨st'.n,[(r,av0)],cz 0 (.box t cells' :: objs'),objs'.length+1⟩:aj).get r=av0:=by
   have:r<st'.n:=by
    have h6:=h2.size;have h7:=hA.slots r rfl;refine Classical.byContradiction fun h8=>?_;have h9:a'.tmps.getD r undef=undef:=(by simp[Array.getD,show ¬r<a'.tmps.size by omega]);have h10:=hv r _ _ hx0 hr;rw[h50] at h9;exact hundef (by rw[<- h9];exact h10)
   simp[aj.get,aX,this]
  rw[e5,h50] at hrr;have hb2:=hpin _ _ _ _ _ _ _ _ _ _ _ (hv r _ _ hx0 hr) hrr (cN hget0) (cN hget2);rw[hLb,hL2] at hb2 ⊢;cases hb2;rfl
 cases ex with
 | normal=>exact key h1
 | ret=>exact key h1
 | _=>exact h1.elim
theorem Py{P:Program}{st:aj}{f:FuncId}{avs:List AV}{K:AV->aj->Prop}(h:Lm P st f avs K):gb none P st f avs K:=.inr (.inl ⟨rfl,.inl (.inr (.inr h))⟩)
end
section
def DA(e:TypeId)(sz:Nat)(rows:List (List AV))(R:cu):Prop:=R=gl e sz rows\/(R=val (.slice none 0 0)/\rows=[])
theorem jP{P:Program}{f:FuncId}{args:List AV}(e:TypeId){sz:Nat}{rows:List (List AV)}(h:dp P f args (DA e sz rows)):am P f args ⟨.sl sz rows,[],0⟩:=n5 h
theorem jD{e:TypeId}{sz:Nat}{rows:List (List AV)}(h:rows=[]):DA e sz rows (val (.slice none 0 0)):=.inr ⟨rfl,h⟩
theorem lp{e:TypeId}{sz:Nat}{rows:List (List AV)}:DA e sz rows (gl e sz rows):=.inl rfl
theorem Bw{r av:AV}{st:aj}(h:r.ren []=av):fp ⟨r,[],0⟩ st av:=⟨[],List.nodup_nil,h,trivial⟩
abbrev yT:aw:=⟨1,0,0,0,0,0,0⟩
structure D4 where
 ev:Int
 us:Int
 dst:Int
abbrev QJ(e:D4):List AV:=[eI e.ev,eI e.us,eI e.dst]
abbrev xl(l:List (List D4)):List (List AV):=l.map fun r=>[.sl 3 (r.map QJ)]
end
section
def bM(g r:Int):Int:=if g<0 then 0 else min g (aY r)
abbrev eP(p:Int×Int):List AV:=[eI p.1,eI p.2]
theorem fM(r:Int):0<=aY r/\aY r<=1048575:=by
 unfold aY;have h1:(2:Nat) ^ (min r.toNat 20)<=2 ^ 20:=Vp (by omega) (by omega);have h2:((2 ^ (min r.toNat 20):Nat):Int)=(2:Int) ^ (min r.toNat 20):=by simp
 have h3:(0:Int)<2 ^ (min r.toNat 20):=Int.pow_pos (by omega);omega
theorem tE(g r:Int):0<=bM g r/\bM g r<=aY r:=by
 have:=fM r;unfold bM;split<;>omega
theorem np(g r:Int):am Tryz.prog 166 [eI g,eI r] (val (.int .i64 (bM g r))):=by
 refine aa ag Tryz.func166 rfl (by decide) Tryz.ntmps166 Tryz.results166 rfl (aD _) ?_;have hC:=uW r;by_cases h:g<0
 .have d:decide (g<0)=true:=by simpa using h
  unfold bM;rw[UZ h]
  repeat' first|refine gf d ?_|decide|refine sp ?_ ?_<;>intro _
 .have d:decide (g<0)=false:=by simpa using h
  unfold bM;rw[UX h]
  repeat' first|refine gf d ?_|decide|refine sp ?_ ?_<;>intro _|refine cA hC ?_|fail
theorem Un:(0:Int)<=1:=by decide
theorem Um:(0:Int)<((2:Nat):Int):=by decide
theorem Ux:(1:Int)<((2:Nat):Int):=by decide
def jX(l:List (Int×Int))(a b:Int):Bool:=l.any fun p=>p.1 == a && p.2 == b
theorem Kj{l:List (Int×Int)}{k:Nat}(hk:k<l.length)(a b:Int):jX (l.take (k+1)) a b=(jX (l.take k) a b || (l[k].1 == a && l[k].2 == b)):=by
 unfold jX;rw[U0 hk,List.any_append];simp
theorem OU{l:List (Int×Int)}(k:Nat)(a b:Int)(h:jX (l.take k) a b=true):jX l a b=true:=by
 unfold jX at *;rw[WS] at *;obtain⟨x,hx,h⟩:=h;exact⟨x,Vt hx,h⟩
theorem w9(l:List (Int×Int))(a b:Int)(hl:l.length<=1000000000000):am Tryz.prog 168 [.sl 2 (l.map eP),eI a,eI b] (val (.bool (jX l a b))):=by
 refine aa ag Tryz.func168 rfl (by decide) Tryz.ntmps168 Tryz.results168 rfl (aD _) ?_
 repeat' first|refine go ?_|decide|refine sp ?_ ?_<;>intro _
 refine af (fun st=>∃k:Nat,k<=l.length/\jX (l.take k) a b=false/\st=⟨30,[(0,.sl 2 (l.map eP)),(1,eI a),(2,eI b),(7,eI (k:Int))],[],0⟩) (fun st=>l.length-ax st 7) ⟨_,wC,0,UR _,rfl,rfl⟩ ?_;rintro _ ⟨k,hk,hI,rfl⟩;by_cases hlt:k<l.length
 .have hp:=Kj hlt a b;rw[hI,Xn] at hp;obtain⟨x,hx⟩:∃x,x=l[k]:=⟨_,rfl⟩;have hrow:(l.map eP)[k]?.getD []=eP x:=by rw[hx];simp[hlt]
  rw[<- hx] at hp;have q0:List.drop (Int.toNat 0 * 1) (eP x)=[eI x.1,eI x.2]:=rfl;have q1:List.drop (Int.toNat 1 * 1) (eP x)=[eI x.2]:=rfl
  cases h1:x.1 == a with
  | false=>
   rw[h1,VK] at hp
   repeat' first|refine ge (kf @hrow (kf @hlt (kf h1 (kf Um q0)))) ?_|decide|refine sp ?_ ?_<;>intro _
   exact rI wC ⟨k+1,by omega,hp,rfl⟩
  | true=>
   cases h2:x.2 == b with
   | false=>
    rw[h1,h2,VC] at hp
    repeat' first|refine ge (kf @hrow (kf @hlt (kf h1 (kf h2 (kf Um (kf Ux (kf q0 (kf q1 Un)))))))) ?_|decide|refine sp ?_ ?_<;>intro _
    exact rI wC ⟨k+1,by omega,hp,rfl⟩
   | true=>
    rw[h1,h2,VC] at hp;have:=OU _ _ _ hp;rw[this]
    repeat' first|refine ge (kf @hrow (kf @hlt (kf h1 (kf h2 (kf Um (kf Ux (kf q0 (kf q1 Un)))))))) ?_|decide|refine sp ?_ ?_<;>intro _
 .obtain rfl:k=l.length:=by omega
  rw[U6] at hI;rw[hI]
  repeat' first|refine ge @hlt ?_|decide|refine sp ?_ ?_<;>intro _
def gH(g r:Int):Nat->List (Int×Int)
 | 0=>[]
 | a+1=>if jX (gH g r a) (bM a (r-1)) (bM (g-1-a) (r-1))=true then gH g r a else gH g r a ++ [(bM a (r-1),bM (g-1-a) (r-1))]
theorem pw(g r:Int):∀a,(gH g r a).length<=a
 | 0=>UU _
 | a+1=>by
  have:=pw g r a;rw[gH];split
  .omega
  .rw [UW,Vs];omega
theorem Sy(q:Nat)(r:Int)(hq:q<=100000000)(hr:-1000000<=r/\r<=1000000):am Tryz.prog 167 [eI (q:Int),eI r] (gl 193 2 ((gH (q:Int) r q).map eP)):=by
 refine aa ag Tryz.func167 rfl (by decide) Tryz.ntmps167 Tryz.results167 rfl (cW _ _ _) ?_;have er:IntKind.i64.wrap (r-1)=r-1:=aE (by omega) (by omega)
 repeat' first|refine go ?_|decide|refine sp ?_ ?_<;>intro _
 refine af (fun st=>∃k:Nat,k<=q/\st=⟨37,[(0,eI (q:Int)),(1,eI r),(5,.osl 0),(6,eI (k:Int))],[(0,some (.row 193 2 ((gH (q:Int) r k).map eP)))],1⟩) (fun st=>q-ax st 6) ⟨_,((bq 5 193 2 (by simp only[iC,aj.get,aX,aj.put,↓reduceIte,reduceCtorEq,Nat.reduceLT,Nat.reduceEqDiff,Nat.reduceAdd,Nat.reduceLeDiff,eq_self,implies_true,gH,Vn])).trans (wS [0] (kf @gH.eq_1 @gH.eq_2))),0,UR _,rfl⟩ ?_;rintro _ ⟨k,hk,rfl⟩;by_cases hlt:k<q
 .have e1:IntKind.i64.wrap ((q:Int)-1)=(q:Int)-1:=aE (by omega) (by omega);have e2:IntKind.i64.wrap ((q:Int)-1-(k:Int))=(q:Int)-1-(k:Int):=aE (by omega) (by omega);have hlen:=pw (q:Int) r k;have hs:=gH.eq_2 (q:Int) r k;have h1:=np (k:Int) (r-1);have h2:=np ((q:Int)-1-(k:Int)) (r-1);obtain⟨x,hx⟩:∃x,x=bM (k:Int) (r-1):=⟨_,rfl⟩;obtain⟨y,hy⟩:∃y,y=bM ((q:Int)-1-(k:Int)) (r-1):=⟨_,rfl⟩;rw[<- hx] at h1 hs;rw[<- hy] at h2 hs;obtain⟨T,hT⟩:∃T,T=gH (q:Int) r k:=⟨_,rfl⟩;rw[<- hT] at hs hlen ⊢;have h3:=w9 T x y (by omega)
  cases hh:jX T x y with
  | true=>
   rw[hh,UZ rfl] at hs;rw[hh] at h3
   repeat' first|refine gf (kf @hlt (kf er (kf e1 e2))) ?_|decide|refine sp ?_ ?_<;>intro _|refine cA h1 ?_|refine cA h2 ?_|refine cA h3 ?_|fail
   all_goals exact rI (wE hs) ⟨k+1,by omega,rfl⟩
  | false=>
   rw[hh,UX (by simp)] at hs;rw[hh] at h3
   repeat' first|refine gf (kf @hlt (kf er (kf e1 e2))) ?_|decide|refine sp ?_ ?_<;>intro _|refine cA h1 ?_|refine cA h2 ?_|refine cA h3 ?_|fail
   all_goals
    have hm:(gH (q:Int) r (k+1)).map eP=T.map eP ++ [[eI x,eI y]]:=by rw[hs];simp
    exact⟨rfl,⟨by omega,by omega⟩,rI (wS [2] hm) ⟨k+1,by omega,rfl⟩⟩
 .obtain rfl:k=q:=by omega
  repeat' first|refine ge @hlt ?_|decide|refine sp ?_ ?_<;>intro _
  exact aV (by simp[ae.gc])
def eE(all:List (Int×Int))(a b:Nat):List (Int×Int):=((List.range b).filter fun(j:Nat)=>jX all (a:Int) (j:Int)).map fun(j:Nat)=>((a:Int),(j:Int))
theorem qO(all:List (Int×Int))(a b:Nat):eE all a (b+1)=eE all a b ++ (if jX all (a:Int) (b:Int)=true then [((a:Int),(b:Int))] else []):=by
 unfold eE;rw[V5,List.filter_append,Vc]
 congr 1
 by_cases h:jX all (a:Int) (b:Int)=true
 .rw [UZ h];simp[h]
 .rw [UX h];simp[h]
theorem rP(all:List (Int×Int))(a b:Nat):(eE all a b).length<=b:=by
 unfold eE;rw[Vd];refine Vj (WN _ _) ?_;simp
def gG(all:List (Int×Int))(c:Nat):Nat->List (Int×Int)
 | 0=>[]
 | a+1=>gG all c a ++ eE all a (c+1)
theorem rZ(all:List (Int×Int))(c:Nat):∀a,(gG all c a).length<=a * (c+1)
 | 0=>by simp[gG]
 | a+1=>by
  have h1:=rZ all c a;have h2:=rP all a (c+1);rw[gG,UW,Xk];omega
def Kw(g r:Int):Int:=if bM g r=aY r then 3 * bM g r+3 else bM g r
def qn(g r:Int):List (Int×Int):=if r<1\/g<1 then [] else gG (gH (Kw g r) r (Kw g r).toNat) (aY (r-1)).toNat ((aY (r-1)).toNat+1)
theorem Ar(g r:Int):(qn g r).length<=((aY (r-1)).toNat+1) * ((aY (r-1)).toNat+1):=by
 unfold qn;split
 .exact UR _
 .exact rZ _ _ _
theorem Ig(g r:Int)(hr:-1000000<=r/\r<=1000000):am Tryz.prog 132 [eI g,eI r] ⟨.sl 2 ((qn g r).map eP),[],0⟩:=by
 refine jP 193 ?_;refine bj ag Tryz.func132 rfl (by decide) Tryz.ntmps132 Tryz.results132 rfl ?_;unfold qn;by_cases hbad:r<1\/g<1
 .rw [UZ hbad];by_cases h1:r<1
  .have d1:decide (r<1)=true:=Vb h1
   repeat' first|refine gf d1 ?_|decide|refine sp ?_ ?_<;>intro _
   all_goals exact cK (jD rfl)
  .have d1:decide (r<1)=false:=U5 h1;have d2:decide (g<1)=true:=Vb (by omega)
   repeat' first|refine gf (kf d1 d2) ?_|decide|refine sp ?_ ?_<;>intro _
   all_goals exact cK (jD rfl)
 .rw [UX hbad];have d1:decide (r<1)=false:=U5 (by omega);have d2:decide (g<1)=false:=U5 (by omega);have er:IntKind.i64.wrap (r-1)=r-1:=aE (by omega) (by omega);have hC:=np g r;have hc:=tE g r;have hp:=fM r;have hp1:=fM (r-1);have hR:=uW r;have hR1:=uW (r-1);obtain⟨c,hcc⟩:∃c:Nat,aY (r-1)=(c:Int):=⟨(aY (r-1)).toNat,by omega⟩;obtain⟨q,hq⟩:∃q:Nat,Kw g r=(q:Int):=⟨(Kw g r).toNat,by unfold Kw;split<;>omega⟩;have hqb:q<=100000000:=by unfold Kw at hq;split at hq<;>omega
  have e1:(Kw g r).toNat=q:=by omega
  have e2:(aY (r-1)).toNat=c:=by omega
  rw[e1,e2,hq];rw[hcc] at hR1 hp1;have hT:am Tryz.prog 167 [eI (q:Int),eI r] ⟨.sl 2 ((gH (q:Int) r q).map eP),[],0⟩:=am.still [0] (Sy q r hqb hr) (by simp[cu.frzs,cu.frz,gl,ae.gc,AV.frz]) (by simp[AV.lt]);have hTl:=pw (q:Int) r q;obtain⟨T,hTe⟩:∃T,T=gH (q:Int) r q:=⟨_,rfl⟩;rw[<- hTe] at hT hTl ⊢;have hcb:c<=1048575:=by omega
  have hb1:∀a b:Nat,a<=c+1->b<=c+1->(gG T c a ++ eE T a b).length<=1099511627776+1048577:=fun a b ha hb=>by
   have h1:=rZ T c a;have h2:=rP T a b;have h3:a * (c+1)<=1048576 * 1048576:=WI (by omega) (by omega);rw[UW];omega
  by_cases hcap:bM g r=aY r
  .have d3:(bM g r == aY r)=true:=Wz.2 hcap;have hqq:3 * bM g r+3=(q:Int):=by unfold Kw at hq;rw[UZ hcap] at hq;exact hq
   have w1:IntKind.i64.wrap (3 * bM g r)=3 * bM g r:=aE (by omega) (by omega);have w2:IntKind.i64.wrap (3 * bM g r+3)=(q:Int):=by rw[hqq];exact aE (by omega) (by omega)
   repeat' first|refine gf (kf d1 (kf d2 (kf d3 (kf er (kf w1 w2))))) ?_|decide|refine sp ?_ ?_<;>intro _|refine cA hC ?_|refine cA hR ?_|refine cA hT ?_|fail
   refine af (fun st=>∃a:Nat,a<=c+1/\st=⟨55,[(1,eI r),(5,.osl 0),(7,.sl 2 (T.map eP)),(8,eI (a:Int))],[(0,some (.row 193 2 ((gG T c a).map eP)))],1⟩) (fun st=>c+1-ax st 8) ⟨_,((bq 5 193 2 (by simp only[iC,aj.get,aX,aj.put,↓reduceIte,reduceCtorEq,Nat.reduceLT,Nat.reduceEqDiff,Nat.reduceAdd,Nat.reduceLeDiff,eq_self,implies_true,gG,Vn])).trans (wS [0] (kf @gG.eq_1 @gG.eq_2))),0,UR _,rfl⟩ ?_;rintro _ ⟨a,ha,rfl⟩;by_cases hla:a<=c
   .repeat' first|refine gf (kf @hla er) ?_|decide|refine sp ?_ ?_<;>intro _|refine cA hR1 ?_|fail
    refine af (fun st=>∃b:Nat,b<=c+1/\st=⟨55,[(1,eI r),(5,.osl 0),(7,.sl 2 (T.map eP)),(8,eI (a:Int)),(9,eI (b:Int))],[(0,some (.row 193 2 ((gG T c a ++ eE T a b).map eP)))],1⟩) (fun st=>c+1-ax st 9) ⟨_,(wE (kf @eE.eq_1 (kf @Wx @List.filter_nil.{0}))),0,UR _,rfl⟩ ?_;rintro _ ⟨b,hb,rfl⟩;by_cases hlb:b<=c
    .have hH:=w9 T (a:Int) (b:Int) (by omega);have hs:=qO T a b;have hlen:=hb1 a b ha hb;obtain⟨O,hO⟩:∃O,O=gG T c a ++ eE T a b:=⟨_,rfl⟩;have hs2:gG T c a ++ eE T a (b+1)=O ++ (if jX T (a:Int) (b:Int)=true then [((a:Int),(b:Int))] else []):=(by rw[hs,hO,Vw]);rw[<- hO] at hlen ⊢
     cases hh:jX T (a:Int) (b:Int) with
     | true=>
      rw[hh,UZ rfl] at hs2;rw[hh] at hH;have et:(gG T c a ++ eE T a (b+1)).map eP=O.map eP ++ [[eI (a:Int),eI (b:Int)]]:=by rw[hs2];simp
      repeat' first|refine gf (kf @hlb er) ?_|decide|refine sp ?_ ?_<;>intro _|refine cA hR1 ?_|refine cA hH ?_|(with_reducible apply And.intro)
      all_goals first
       | rfl
       | omega
       | exact rI (wS [2] et) ⟨b+1,by omega,rfl⟩
     | false=>
      rw[hh,UX (by simp),VH] at hs2;rw[hh] at hH
      repeat' first|refine gf (kf @hlb er) ?_|decide|refine sp ?_ ?_<;>intro _|refine cA hR1 ?_|refine cA hH ?_|fail
      all_goals exact rI (wE hs2) ⟨b+1,by omega,rfl⟩
    .obtain rfl:b=c+1:=by omega
     have hs:gG T c (a+1)=gG T c a ++ eE T a (c+1):=rfl
     repeat' first|refine gf (kf @hlb er) ?_|decide|refine sp ?_ ?_<;>intro _|refine cA hR1 ?_|fail
     all_goals exact rI (wE hs) ⟨a+1,by omega,rfl⟩
   .obtain rfl:a=c+1:=by omega
    repeat' first|refine gf (kf @hla er) ?_|decide|refine sp ?_ ?_<;>intro _|refine cA hR1 ?_|fail
    all_goals exact zQ rfl lp
  .have d3:(bM g r == aY r)=false:=Vv.2 hcap;have hqq:bM g r=(q:Int):=by unfold Kw at hq;rw[UX hcap] at hq;exact hq
   rw[hqq] at hC d3
   repeat' first|refine gf (kf d1 (kf d2 (kf d3 er))) ?_|decide|refine sp ?_ ?_<;>intro _|refine cA hC ?_|refine cA hR ?_|refine cA hT ?_|fail
   refine af (fun st=>∃a:Nat,a<=c+1/\st=⟨55,[(1,eI r),(5,.osl 0),(7,.sl 2 (T.map eP)),(8,eI (a:Int))],[(0,some (.row 193 2 ((gG T c a).map eP)))],1⟩) (fun st=>c+1-ax st 8) ⟨_,((bq 5 193 2 (by simp only[iC,aj.get,aX,aj.put,↓reduceIte,reduceCtorEq,Nat.reduceLT,Nat.reduceEqDiff,Nat.reduceAdd,Nat.reduceLeDiff,eq_self,implies_true,gG,Vn])).trans (wS [0] (kf @gG.eq_1 @gG.eq_2))),0,UR _,rfl⟩ ?_;rintro _ ⟨a,ha,rfl⟩;by_cases hla:a<=c
   .repeat' first|refine gf (kf @hla er) ?_|decide|refine sp ?_ ?_<;>intro _|refine cA hR1 ?_|fail
    refine af (fun st=>∃b:Nat,b<=c+1/\st=⟨55,[(1,eI r),(5,.osl 0),(7,.sl 2 (T.map eP)),(8,eI (a:Int)),(9,eI (b:Int))],[(0,some (.row 193 2 ((gG T c a ++ eE T a b).map eP)))],1⟩) (fun st=>c+1-ax st 9) ⟨_,(wE (kf @eE.eq_1 (kf @Wx @List.filter_nil.{0}))),0,UR _,rfl⟩ ?_;rintro _ ⟨b,hb,rfl⟩;by_cases hlb:b<=c
    .have hH:=w9 T (a:Int) (b:Int) (by omega);have hs:=qO T a b;have hlen:=hb1 a b ha hb;obtain⟨O,hO⟩:∃O,O=gG T c a ++ eE T a b:=⟨_,rfl⟩;have hs2:gG T c a ++ eE T a (b+1)=O ++ (if jX T (a:Int) (b:Int)=true then [((a:Int),(b:Int))] else []):=(by rw[hs,hO,Vw]);rw[<- hO] at hlen ⊢
     cases hh:jX T (a:Int) (b:Int) with
     | true=>
      rw[hh,UZ rfl] at hs2;rw[hh] at hH;have et:(gG T c a ++ eE T a (b+1)).map eP=O.map eP ++ [[eI (a:Int),eI (b:Int)]]:=by rw[hs2];simp
      repeat' first|refine gf (kf @hlb er) ?_|decide|refine sp ?_ ?_<;>intro _|refine cA hR1 ?_|refine cA hH ?_|(with_reducible apply And.intro)
      all_goals first
       | rfl
       | omega
       | exact rI (wS [2] et) ⟨b+1,by omega,rfl⟩
     | false=>
      rw[hh,UX (by simp),VH] at hs2;rw[hh] at hH
      repeat' first|refine gf (kf @hlb er) ?_|decide|refine sp ?_ ?_<;>intro _|refine cA hR1 ?_|refine cA hH ?_|fail
      all_goals exact rI (wE hs2) ⟨b+1,by omega,rfl⟩
    .obtain rfl:b=c+1:=by omega
     have hs:gG T c (a+1)=gG T c a ++ eE T a (c+1):=rfl
     repeat' first|refine gf (kf @hlb er) ?_|decide|refine sp ?_ ?_<;>intro _|refine cA hR1 ?_|fail
     all_goals exact rI (wE hs) ⟨a+1,by omega,rfl⟩
   .obtain rfl:a=c+1:=by omega
    repeat' first|refine gf (kf @hla er) ?_|decide|refine sp ?_ ?_<;>intro _|refine cA hR1 ?_|fail
    all_goals exact zQ rfl lp
end
end
section
section
def fH(L:List Int)(r:Int)(k:Nat):List Int:=(List.range (k-1)).map fun i=>cC (L.getD i 0) (L.getD (i+1) 0) (aY r)
theorem Dv(L:List Int)(r:Int)(k:Nat):fH L r (k+2)=fH L r (k+1) ++ [cC (L.getD k 0) (L.getD (k+1) 0) (aY r)]:=by
 unfold fH;rw[show k+2-1=k+1 by omega,show k+1-1=k by omega,V5,Vc];rfl
def bS(vals c:List Int)(r:Int):Zn:=⟨iB vals c,fH (a6 vals c) r (a6 vals c).length⟩
theorem pP(vals:List Int)(n:Int):∀k,aA (cn vals n k)
 | 0=>by unfold cn aA;omega
 | k+1=>by
  unfold cn;split
  .exact bW (jk _ _)
  .exact pP vals n k
theorem Pa(r:Int):aY r<=4294967296:=by
 have h1:(2:Nat) ^ (min r.toNat 20)<=2 ^ 20:=Vp (by omega) (by omega);have h2:((2 ^ (min r.toNat 20):Nat):Int)=(2:Int) ^ (min r.toNat 20):=by simp
 unfold aY;omega
theorem LJ(vals c:List Int)(r:Int)(h1:vals.length<=31)(h2:c.length<=400)(hv:∀x∈vals,aA x)(hc:∀x∈c,aA x):am Tryz.prog 34 [sI vals,sI c,eI r] ⟨.agg (cS (bS vals c r)),[],0⟩:=by
 refine am.still (R:=⟨.agg [.osl 0,.osl 1],[(0,some (.row 142 2 ((iB vals c).map du))),(1,some (.row 3 1 ((fH (a6 vals c) r (a6 vals c).length).map fun n=>[eI n])))],2⟩) [0,1] ?_ (by simp[cu.frzs,cu.frz,ae.gc,AV.frz,AV.frzL,bw,aB.frz,bS]) (by simp[AV.lt,AV.ltL]);refine aa ag Tryz.func34 rfl (by decide) Tryz.ntmps34 Tryz.results34 rfl (fR (by simp[bX,aB.lt,AV.ltL,AV.lt]) (by simp[AV.lt,AV.ltL])) ?_;have hS:=fZ c (by omega);have hN:=Au vals c (by omega) h2;have hLlen:(a6 vals c).length<=431:=by have:=fh (vals ++ c);simp at this;unfold a6;omega
 have hSlen:(aR c).length<=400:=by have:=fh c;omega
 have hLok:∀x∈a6 vals c,aA x:=fun x hx=>by
  have:=((bm (vals ++ c)).2 x).1 hx;rcases U4.1 this with h|h
  .exact hv x h
  .exact hc x h
 have hcl:∀k,(iB vals c).take k=((a6 vals c).take k).map (ey vals c):=fun k=>by unfold iB;rw[List.map_take]
 have hgt:decide (31<(vals.length:Int))=false:=by simp only[Vf];omega
 have hgt2:decide (31<vals.length)=false:=by simp only[Vf];omega
 have hcls:iB vals c=(a6 vals c).map (ey vals c):=rfl;obtain⟨cf,hcf⟩:∃f,ey vals c=f:=⟨_,rfl⟩;obtain⟨sc,hsc⟩:∃sc,aR c=sc:=⟨_,rfl⟩;obtain⟨L,hL⟩:∃L,a6 vals c=L:=⟨_,rfl⟩;rw[hcls,hcf];rw[hsc] at hS hSlen;rw[hL] at hN hLlen hLok ⊢;have hcfv:∀n,cf n=⟨cn vals n vals.length,dE sc n sc.length⟩:=fun n=>by rw[<- hcf,<- hsc];rfl
 repeat' first|refine gf (kf @hgt @hgt2) ?_|decide|refine sp ?_ ?_<;>intro _|refine cA hS ?_|refine cA hN ?_|fail
 refine af (fun st=>∃k:Nat,k<=L.length/\st=⟨94,[(0,sI vals),(2,eI r),(6,.op 0 0 0),(7,sI sc),(8,sI L),(9,.op 1 0 0),(10,eI (k:Int))],[(0,some (.box 54 [.c (.slice none 0 0),.c (.slice none 0 0)])),(1,some (.box 54 [.osl 2,.osl 3])),(2,some (.row 142 2 ((L.take k).map fun n=>du (cf n)))),(3,some (.row 3 1 ((fH L r k).map fun n=>[eI n])))],4⟩) (fun st=>L.length-ax st 10)
  ⟨_,((cQ 1 0 142 2 (t:=54) (cells:=[.c (.slice none 0 0),.c (.slice none 0 0)]) (by simp[ae.gc]) rfl).trans ((cQ 1 1 3 1 (t:=54) (cells:=[.osl 2,.c (.slice none 0 0)]) (by simp[ae.gc]) rfl).trans (wE (kf @Wi (kf @WQ (kf @Va (kf @fH.eq_1 (kf @Wx @Nat.zero_sub)))))))),0,UR _,rfl⟩ ?_
 rintro _ ⟨k,hk,rfl⟩;by_cases hlt:k<L.length
 .obtain ⟨n,hn⟩:∃n,L[k]=n:=⟨_,rfl⟩
  repeat' first|refine gf @hlt ?_|decide|refine sp ?_ ?_<;>intro _
  refine af (fun st=>∃i:Nat,i<=vals.length/\st=⟨94,[(0,sI vals),(2,eI r),(6,.op 0 0 0),(7,sI sc),(8,sI L),(9,.op 1 0 0),(10,eI (k:Int)),(11,.op 4 0 0),(12,eI (i:Int))],[(0,some (.box 54 [.c (.slice none 0 0),.c (.slice none 0 0)])),(1,some (.box 54 [.osl 2,.osl 3])),(2,some (.row 142 2 ((L.take k).map fun n=>du (cf n)))),(3,some (.row 3 1 ((fH L r k).map fun n=>[eI n]))),(4,some (.box 142 [eI (cn vals n i),eI (-1)]))],5⟩) (fun st=>vals.length-ax st 12) ⟨_,(wE (kf @cn.eq_1 @cn.eq_2)),0,UR _,rfl⟩ ?_;rintro _ ⟨i,hi,rfl⟩;by_cases hi2:i<vals.length
  .have hP:=qL (cn vals n i) (i:Int) true (pP vals n i) (by omega) (by omega);by_cases he:vals[i]=n
   .have hev:(vals[i] == n)=true:=by simpa using he
    have hst:cn vals n (i+1)=bn (cn vals n i) (i:Int):=by
     rw[cn,UZ (by rw[Os,p0 hi2];exact he)]
    repeat' first|refine gq ?_|simp only[ab,hi2,hlt,hn,hev]|decide|refine sp ?_ ?_<;>intro _|refine cA hP ?_|fail
    all_goals exact rI (wE @hst) ⟨i+1,by omega,rfl⟩
   .have hev:(vals[i] == n)=false:=by simpa using he
    have hst:cn vals n (i+1)=cn vals n i:=by
     rw[cn,UX (by rw[Os,p0 hi2];exact he)]
    repeat' first|refine gq ?_|simp only[ab,hi2,hlt,hn,hev]|decide|refine sp ?_ ?_<;>intro _
    all_goals exact rI (wE @hst) ⟨i+1,by omega,rfl⟩
  .obtain rfl:i=vals.length:=by omega
   obtain⟨A,hA⟩:∃A,cn vals n vals.length=A:=⟨_,rfl⟩;rw[hA]
   repeat' first|refine gf hi2 ?_|decide|refine sp ?_ ?_<;>intro _
   refine af (fun st=>∃i:Nat,i<=sc.length/\st=⟨94,[(0,sI vals),(2,eI r),(6,.op 0 0 0),(7,sI sc),(8,sI L),(9,.op 1 0 0),(10,eI (k:Int)),(11,.op 4 0 0),(13,eI (i:Int))],[(0,some (.box 54 [.c (.slice none 0 0),.c (.slice none 0 0)])),(1,some (.box 54 [.osl 2,.osl 3])),(2,some (.row 142 2 ((L.take k).map fun n=>du (cf n)))),(3,some (.row 3 1 ((fH L r k).map fun n=>[eI n]))),(4,some (.box 142 [eI A,eI (dE sc n i)]))],5⟩) (fun st=>sc.length-ax st 13) ⟨_,(wE (kf @dE.eq_1 @dE.eq_2)),0,UR _,rfl⟩ ?_;rintro _ ⟨i,hi,rfl⟩;by_cases hi3:i<sc.length
   .by_cases he:sc[i]=n
    .have hev:(sc[i] == n)=true:=by simpa using he
     have hst:dE sc n (i+1)=(i:Int):=by
      rw[dE,UZ (by rw[Os,p0 hi3];exact he)]
     repeat' first|refine gq ?_|simp only[ab,hi3,hlt,hn,hev]|decide|refine sp ?_ ?_<;>intro _
     all_goals exact rI (wE @hst) ⟨i+1,by omega,rfl⟩
    .have hev:(sc[i] == n)=false:=by simpa using he
     have hst:dE sc n (i+1)=dE sc n i:=by
      rw[dE,UX (by rw[Os,p0 hi3];exact he)]
     repeat' first|refine gq ?_|simp only[ab,hi3,hlt,hn,hev]|decide|refine sp ?_ ?_<;>intro _
     all_goals exact rI (wE @hst) ⟨i+1,by omega,rfl⟩
   .obtain rfl:i=sc.length:=by omega
    have hx:cf n=⟨A,dE sc n sc.length⟩:=(by rw[hcfv,hA]);have hsn:(L.take (k+1)).map (fun n=>du (cf n))=(L.take k).map (fun n=>du (cf n)) ++ [[eI A,eI (dE sc n sc.length)]]:=(by rw[dm _ L hlt,hn,hx]);have htl:(L.take k).length<=431:=by rw[U2];omega
    obtain⟨C,hC⟩:∃C,dE sc n sc.length=C:=⟨_,rfl⟩;rw[hC] at hsn ⊢
    cases k with
    | zero=>
     have hg:fH L r (0+1)=fH L r 0:=rfl;have d1:decide (0<((0:Nat):Int))=false:=(by decide);have d2:decide (0<0)=false:=(by decide)
     repeat' first|refine gf (kf hi3 (kf d1 d2)) ?_|decide|refine sp ?_ ?_<;>intro _|(with_reducible apply And.intro)
     all_goals first
      | rfl
      | omega
      | (simp;omega)
      | exact rI (wS [0,1,6,3] (kf @hsn hg)) ⟨0+1,by omega,rfl⟩
    | succ k=>
     have hk0:k<L.length:=(by omega);have hgs:=Dv L r k;have e0:L.getD k 0=L[k]:=by rw[Os,p0 hk0];rfl
     have e1:L.getD (k+1) 0=n:=by rw[Os,p0 hlt];exact hn
     rw[e0,e1] at hgs;have hgl:(fH L r (k+1)).length<=431:=by simp[fH];omega
     have hG:=PA L[k] n (aY r) (hLok _ (UQ hk0)) (hn ▸ hLok _ (UQ hlt)) (Pa r);have hCp:=uW r;have ek:IntKind.i64.wrap (((k+1:Nat):Int)-1)=(k:Int):=by rw[aE (by omega) (by omega)];omega
     have d1:decide (0<((k+1:Nat):Int))=true:=by simp only[U7];omega
     have d2:decide (0<k+1)=true:=(by simp);have hgm:(fH L r (k+2)).map (fun n=>[eI n])=(fH L r (k+1)).map (fun n=>[eI n]) ++ [[eI (cC L[k] n (aY r))]]:=by rw[hgs];simp
     repeat' first|refine ge (kf hi3 (kf d1 d2)) ?_|decide|refine sp ?_ ?_<;>intro _
     refine aG [1,3] [0,2,3,4,5,6,7,8,9,10,11] (.two 1 (.exec 12 (.exec 13 (.exec 14 (.exec 15 (.take 16 (.exec 17 .done)))))) 12 (.two 1 (.exec 13 (.exec 14 (.exec 15 (.take 16 (.exec 17 .done))))) 13 (.two 1 (.exec 14 (.exec 15 (.take 16 (.exec 17 .done)))) 14 (.exec 1 (.exec 15 (.take 16 (.exec 17 .done))))))) (by kernel_rfl) (by simp[ae.gc]) ?_
     repeat' first|refine gq ?_|simp only[ab,hlt,hk0,hn,ek]|decide|refine sp ?_ ?_<;>intro _|refine cA hCp ?_|refine cA hG ?_|(with_reducible apply And.intro)
     all_goals first
      | rfl
      | omega
      | (simp;omega)
      | exact rI (wS [0,1,8,6] (kf @hsn @hgm)) ⟨k+1+1,by omega,rfl⟩
 .obtain rfl:k=L.length:=by omega
  repeat' first|refine gf (kf @hlt @U6) ?_|decide|refine sp ?_ ?_<;>intro _
  exact⟨[2,3],by decide,rfl,by simp[b6,ae.gc]⟩
end
section
def PK(z:Zn)(i:Nat)(r:Int)(k:Nat):Int:=if k=i+1 then bM (bM (z.gaps.getD (i-1) 0) r+bM (z.gaps.getD i 0) r+1) r else z.gaps.getD (k-1) 0
instance:Inhabited fo:=⟨⟨0,0⟩⟩
def lF(z:Zn)(i:Nat)(r:Int):Nat->Zn
 | 0=>⟨[],[]⟩
 | k+1=>if k=i then lF z i r k else ⟨(lF z i r k).cls ++ [z.cls.getD k default],if (lF z i r k).cls.length=0 then (lF z i r k).gaps else (lF z i r k).gaps ++ [PK z i r k]⟩
theorem xU(z:Zn)(i:Nat)(r:Int):∀k,(lF z i r k).cls.length=if i<k then k-1 else k
 | 0=>by simp[lF]
 | k+1=>by
  have h:=xU z i r k;rw[lF];split
  .rename_i e;rw[h,e,UX (by omega),UZ (by omega)];omega
  .rename_i e;rw[UW,Vs,h];split<;>split<;>omega
theorem sn(z:Zn)(i:Nat)(r:Int):∀k,(lF z i r k).gaps.length=(lF z i r k).cls.length-1
 | 0=>by simp[lF]
 | k+1=>by
  have h:=sn z i r k;rw[lF];split
  .exact h
  .simp only[UW,Vs];split
   .rw [h];omega
   .rw [UW,Vs,h];omega
theorem Fm(z:Zn)(i:Nat)(r:Int)(hi:i<z.cls.length)(hc:z.cls.length<=1000000)(hg:z.gaps.length=z.cls.length-1):am Tryz.prog 133 [.agg (cS z),eI (i:Int),eI r] ⟨.agg (cS (lF z i r z.cls.length)),[],0⟩:=by
 refine am.still (R:=⟨.agg [.osl 0,.osl 1],[(0,some (.row 142 2 ((lF z i r z.cls.length).cls.map du))),(1,some (.row 3 1 ((lF z i r z.cls.length).gaps.map fun n=>[eI n])))],2⟩) [0,1] ?_ (by simp[cu.frzs,cu.frz,ae.gc,AV.frz,AV.frzL,bw,aB.frz]) (by simp[AV.lt,AV.ltL]);refine aa ag Tryz.func133 rfl (by decide) Tryz.ntmps133 Tryz.results133 rfl (fR (by simp[bX,aB.lt,AV.ltL,AV.lt]) (by simp[AV.lt,AV.ltL])) ?_;have ei:IntKind.i64.wrap ((i:Int)-1)=(i:Int)-1:=aE (by omega) (by omega)
 repeat' first|refine go ?_|decide|refine sp ?_ ?_<;>intro _
 refine af (fun st=>∃k:Nat,k<=z.cls.length/\st=⟨66,[(1,eI (i:Int)),(2,eI r),(3,.op 0 0 0),(6,.op 1 0 0),(7,.op 2 0 0),(8,eI (k:Int))],[(0,some (.box 54 (cS z))),(1,some (.box 54 [.c (.slice none 0 0),.c (.slice none 0 0)])),(2,some (.box 54 [.osl 3,.osl 4])),(3,some (.row 142 2 ((lF z i r k).cls.map du))),(4,some (.row 3 1 ((lF z i r k).gaps.map fun n=>[eI n])))],5⟩) (fun st=>z.cls.length-ax st 8)
  ⟨_,((cQ 2 0 142 2 (t:=54) (cells:=[.c (.slice none 0 0),.c (.slice none 0 0)]) (by simp[ae.gc]) rfl).trans ((cQ 2 1 3 1 (t:=54) (cells:=[.osl 3,.c (.slice none 0 0)]) (by simp[ae.gc]) rfl).trans (wE (kf @Wi (kf @WQ (kf @lF.eq_1 @lF.eq_2)))))),0,UR _,rfl⟩ ?_
 rintro _ ⟨k,hk,rfl⟩;by_cases hlt:k<z.cls.length
 .have hl1:=xU z i r k;have hl2:=sn z i r k;have hs:=lF.eq_2 z i r k;have hW:(lF z i r k).cls.length<=1000000:=by rw[hl1];split<;>omega
  obtain⟨x,hx⟩:∃x,z.cls[k]=x:=⟨_,rfl⟩;have hxg:z.cls.getD k default=x:=by rw[Os,p0 hlt,<- hx];rfl
  have hrx:(z.cls.map du)[k]?.getD []=du x:=by simp[hlt,hx]
  rw[hxg] at hs;obtain⟨o,ho⟩:∃o,o=lF z i r k:=⟨_,rfl⟩;rw[<- ho] at hs hl1 hl2 hW ⊢;by_cases he:k=i
  .have d1:((k:Int) == (i:Int))=true:=Wz.2 (by omega);rw[UZ he] at hs
   repeat' first|refine gf (kf @hlt d1) ?_|decide|refine sp ?_ ?_<;>intro _
   all_goals exact rI (wE hs) ⟨k+1,by omega,rfl⟩
  .have d1:((k:Int) == (i:Int))=false:=Vv.2 (by omega);rw[UX he] at hs;have hcm:((lF z i r (k+1)).cls).map du=o.cls.map du ++ [du x]:=by rw[hs];simp
   by_cases h0:o.cls.length=0
   .have d2:decide ((0:Int)<(o.cls.length:Int))=false:=U5 (by omega);have hgm:(lF z i r (k+1)).gaps=o.gaps:=by rw[hs];simp[h0]
    repeat' first|refine ge (kf @hlt (kf d1 d2)) ?_|decide|refine sp ?_ ?_<;>intro _
    refine aG [2,3] [0,2,3,4,5,6] (.two 1 (.exec 7 (.exec 8 (.take 9 (.exec 10 .done)))) 7 (.exec 1 (.exec 8 (.take 9 (.exec 10 .done))))) (by kernel_rfl) (by simp[ae.gc]) ?_
    repeat' first|refine gf (kf @hrx @hlt) ?_|decide|refine sp ?_ ?_<;>intro _|(with_reducible apply And.intro)
    all_goals first
     | rfl
     | omega
     | exact rI (wS [0,1,2,6,4] (kf @hcm @hgm)) ⟨k+1,by omega,rfl⟩
   .have d2:decide ((0:Int)<(o.cls.length:Int))=true:=Vb (by omega)
    have hk1:1<=k:=by
     rw[hl1] at h0;split at h0<;>omega
    have hgm:(lF z i r (k+1)).gaps.map (fun n=>[eI n])=o.gaps.map (fun n=>[eI n]) ++ [[eI (PK z i r k)]]:=by rw[hs];simp[h0]
    have ek:IntKind.i64.wrap ((k:Int)-1)=((k-1:Nat):Int):=by rw[aE (by omega) (by omega)];omega
    have hkg:k-1<z.gaps.length:=(by omega);obtain⟨y,hy⟩:∃y,z.gaps[k-1]=y:=⟨_,rfl⟩;have hry:(z.gaps.map fun n=>[eI n])[k-1]?.getD []=[eI y]:=(by simp[hkg,hy]);by_cases h1:k=i+1
    .have d3:(((k-1:Nat):Int) == (i:Int))=true:=Wz.2 (by omega)
     have hi1:1<=i:=by
      rw[hl1] at h0;split at h0<;>omega
     have ei2:IntKind.i64.wrap ((i:Int)-1)=((i-1:Nat):Int):=by rw[ei];omega
     have hig:i-1<z.gaps.length:=(by omega);obtain⟨u,hu⟩:∃u,z.gaps[i-1]=u:=⟨_,rfl⟩;have hru:(z.gaps.map fun n=>[eI n])[i-1]?.getD []=[eI u]:=(by simp[hig,hu]);have c1:=np u r;have c2:=np y r;have hb1:=tE u r;have hb2:=tE y r;have hb3:=fM r
     have eG:PK z i r k=bM (bM u r+bM y r+1) r:=by
      rw[PK,UZ h1,Os,p0 hig,Os,p0 (by omega),Vi,Vi,hu];simp only[<- hy,h1,Wm]
     rw[eG] at hgm;obtain⟨p,hp⟩:∃p,p=bM u r:=⟨_,rfl⟩;obtain⟨q,hq⟩:∃q,q=bM y r:=⟨_,rfl⟩;rw[<- hp] at c1 hb1;rw[<- hq] at c2 hb2;rw[<- hp,<- hq] at hgm;have e1:IntKind.i64.wrap (p+q)=p+q:=aE (by omega) (by omega);have e2:IntKind.i64.wrap (p+q+1)=p+q+1:=aE (by omega) (by omega);have c3:=np (p+q+1) r;have hgl:o.gaps.length<=1000000:=(by omega)
     repeat' first|refine gf (kf @hlt (kf d1 (kf d2 (kf d3 (kf ek (kf ei2 (kf @hkg (kf @hig (kf @hry (kf @hru (kf e1 e2))))))))))) ?_|decide|refine sp ?_ ?_<;>intro _|refine cA c1 ?_|refine cA c2 ?_|refine cA c3 ?_|fail
     refine⟨rfl,⟨by omega,by omega⟩,?_⟩;refine aG [2,3] [0,2,3,4,5,6] (.two 1 (.exec 7 (.exec 8 (.take 9 (.exec 10 .done)))) 7 (.exec 1 (.exec 8 (.take 9 (.exec 10 .done))))) (by kernel_rfl) (by simp[ae.gc]) ?_
     repeat' first|refine gf (kf @hrx @hlt) ?_|decide|refine sp ?_ ?_<;>intro _|(with_reducible apply And.intro)
     all_goals first
      | rfl
      | omega
      | exact rI (wS [0,1,2,8,6] (kf @hcm @hgm)) ⟨k+1,by omega,rfl⟩
    .have d3:(((k-1:Nat):Int) == (i:Int))=false:=Vv.2 (by omega);have eG:PK z i r k=y:=(by rw[PK,UX h1,Os,p0 hkg,Vi,hy]);rw[eG] at hgm;have hgl:o.gaps.length<=1000000:=(by omega)
     repeat' first|refine gf (kf @hlt (kf d1 (kf d2 (kf d3 (kf ek (kf @hkg @hry)))))) ?_|decide|refine sp ?_ ?_<;>intro _
     refine⟨rfl,⟨by omega,by omega⟩,?_⟩;refine aG [2,3] [0,2,3,4,5,6] (.two 1 (.exec 7 (.exec 8 (.take 9 (.exec 10 .done)))) 7 (.exec 1 (.exec 8 (.take 9 (.exec 10 .done))))) (by kernel_rfl) (by simp[ae.gc]) ?_
     repeat' first|refine gf (kf @hrx @hlt) ?_|decide|refine sp ?_ ?_<;>intro _|(with_reducible apply And.intro)
     all_goals first
      | rfl
      | omega
      | exact rI (wS [0,1,2,8,6] (kf @hcm @hgm)) ⟨k+1,by omega,rfl⟩
 .obtain rfl:k=z.cls.length:=by omega
  repeat' first|refine gf @hlt ?_|decide|refine sp ?_ ?_<;>intro _
  exact⟨[3,4],by decide,rfl,by simp[b6,ae.gc]⟩
structure nh(N:Nat)(z:Zn):Prop where
 cl:z.cls.length<=N
 ga:z.gaps.length<=N
 at_:∀x∈z.cls,aA x.attrs
def pj(z:Zn)(a:Int)(i:Nat):Zn:=⟨z.cls.set i ⟨aZ (z.cls.getD i default).attrs a,(z.cls.getD i default).const⟩,z.gaps⟩
def uc(a r:Int):Nat->Zn->Nat->Zn
 | 0,z,_=>z
 | n+1,z,i=>
  if z.cls.length<=i then z
  else if aQ (z.cls.getD i default).attrs a=false then uc a r n z (i+1)
  else if aZ (z.cls.getD i default).attrs a=0/\(z.cls.getD i default).const = -1 then uc a r n (lF (pj z a i) i r z.cls.length) i
  else uc a r n (pj z a i) (i+1)
def eD(z:Zn)(a r:Int):Zn:=if (z.gaps.length:Int)=max ((z.cls.length:Int)-1) 0 then uc a r z.cls.length z 0 else z
theorem Aa(s i:Int):aA (aZ s i):=bW (iz s i)
theorem rq(z:Zn)(i:Nat)(r:Int):∀k,k<=z.cls.length->∀x∈(lF z i r k).cls,x∈z.cls
 | 0,_,x,hx=>by simp[lF] at hx
 | k+1,hk,x,hx=>by
  rw[lF] at hx;split at hx
  .exact rq z i r k (by omega) x hx
  .rcases U4.1 hx with h|h
   .exact rq z i r k (by omega) x h
   .simp only[Ve] at h;subst h;rw[Os,p0 (by omega),Vi];exact UQ _
theorem DS(z:Zn)(a:Int)(i:Nat):(pj z a i).cls.length=z.cls.length:=by simp[pj]
theorem Mg{z:Zn}(a:Int)(i:Nat)(h:∀x∈z.cls,aA x.attrs):∀x∈(pj z a i).cls,aA x.attrs:=by
 intro x hx;rcases V9 hx with h1|h1
 .exact h x h1
 .rw [h1];exact Aa _ _
theorem Al(z:Zn)(i:Nat)(r:Int)(hi:i<z.cls.length):(lF z i r z.cls.length).cls.length=z.cls.length-1/\(lF z i r z.cls.length).gaps.length=z.cls.length-1-1:=by
 have h1:=xU z i r z.cls.length;rw[UZ hi] at h1;exact⟨h1,by rw[sn,h1]⟩
def UA(st:aj):Nat:=match st.tab.get 0 with
 | some (.box _ (.sl _ rows :: _))=>rows.length-ax st 7
 | _=>0
theorem SV(z:Zn)(a r:Int){N:Nat}(hN:N<=1000000)(hz:nh N z)(ha:0<=a/\a<31):am Tryz.prog 91 [.agg (cS z),eI a,eI r] ⟨.agg (cS (eD z a r)),[],0⟩:=by
 have hcl:=hz.cl;refine aa ag Tryz.func91 rfl (by decide) Tryz.ntmps91 Tryz.results91 rfl (⟨fun id o h=>(by cases h),⟨trivial,trivial,trivial⟩⟩) ?_;have ew:IntKind.i64.wrap ((z.cls.length:Int)-1)=(z.cls.length:Int)-1:=aE (by omega) (by omega);by_cases hg:(z.gaps.length:Int)=max ((z.cls.length:Int)-1) 0
 .have d0:((z.gaps.length:Int) != max ((z.cls.length:Int)-1) 0)=false:=by simp[hg]
  have hD:eD z a r=uc a r z.cls.length z 0:=UZ hg;rw[hD];obtain⟨Q,hQ⟩:∃Q,Q=uc a r z.cls.length z 0:=⟨_,rfl⟩;rw[<- hQ]
  repeat' first|refine ge (kf ew d0) ?_|decide|refine sp ?_ ?_<;>intro _
  refine af (fun st=>∃(n i:Nat)(y:Zn),(y.cls.length<=i+n/\i<=y.cls.length/\nh N y/\y.gaps.length=y.cls.length-1/\uc a r n y i=Q)/\st=⟨75,[(1,eI a),(2,eI r),(3,.op 0 0 0),(6,.op 1 0 0),(7,eI (i:Int))],[(0,some (.box 54 (cS y))),(1,some (.box 54 [.c (.slice none 0 0),.c (.slice none 0 0)]))],2⟩) UA ⟨_,wC,z.cls.length,0,z,⟨by omega,UR _,hz,by omega,hQ.symm⟩,rfl⟩ ?_;rintro _ ⟨n,i,y,⟨hn,hi,hy,hyg,hF⟩,rfl⟩;have hyl:=hy.cl
  have mu0:∀(i':Nat)(y':Zn),UA ⟨75,[(1,eI a),(2,eI r),(3,.op 0 0 0),(6,.op 1 0 0),(7,eI (i':Int))],[(0,some (.box 54 (cS y'))),(1,some (.box 54 [.c (.slice none 0 0),.c (.slice none 0 0)]))],2⟩=y'.cls.length-i':=fun i' y'=>by
   simp[UA,ax,aj.get,aX,ae.gc]
  by_cases hlt:i<y.cls.length
  .obtain ⟨x,hx⟩:∃x,y.cls[i]=x:=⟨_,rfl⟩;have hxg:y.cls.getD i default=x:=by rw[Os,p0 hlt,<- hx];rfl
   have hrx:(y.cls.map du)[i]?.getD []=du x:=(by simp[hlt,hx]);have hxo:aA x.attrs:=hy.at_ x (hx ▸ UQ hlt);have hH:=eQ x.attrs a hxo;have hP:=qL x.attrs a false hxo ha.1 ha.2;obtain⟨n,rfl⟩:∃n',n=n'+1:=⟨n-1,by omega⟩;rw[uc,UX (by omega),hxg] at hF
   cases hb:aQ x.attrs a with
   | false=>
    rw[hb,UZ rfl] at hF;rw[hb] at hH
    repeat' first|refine gf (kf @hrx @hlt) ?_|decide|refine sp ?_ ?_<;>intro _|refine cA hH ?_|fail
    all_goals exact gv wC ⟨n,i+1,y,⟨by omega,by omega,hy,hyg,hF⟩,rfl⟩ (by rw[mu0,mu0];omega)
   | true=>
    rw[hb,UX (by simp)] at hF;rw[hb] at hH;rw[UX (by simp)] at hP;obtain⟨v,hv⟩:∃v,v=aZ x.attrs a:=⟨_,rfl⟩;rw[<- hv] at hF hP;have hset:(y.cls.map du).set i [eI v,eI x.const]=(pj y a i).cls.map du:=(by rw[pj,hxg,<- hv,WH]);have hdl:=DS y a i
    repeat' first|refine ge (kf @hrx @hlt) ?_|decide|refine sp ?_ ?_<;>intro _
    refine al hH ?_
    repeat' first|refine ge (kf @hrx @hlt) ?_|decide|refine sp ?_ ?_<;>intro _
    refine⟨rfl,⟨by omega,by omega⟩,?_⟩;refine al hP ?_;have h3:i<(pj y a i).cls.length:=(by omega)
    have hr3:((pj y a i).cls.map du)[i]?.getD []=[eI v,eI x.const]:=by
     rw[<- hset];simp[hlt]
    have hdo:=Mg a i hy.at_;have hdg:(pj y a i).gaps=y.gaps:=rfl;have hdz:cS (pj y a i)=[.sl 2 ((pj y a i).cls.map du),sI y.gaps]:=rfl;by_cases h0:v=0/\x.const = -1
    .have b1:(v == 0)=true:=Wz.2 h0.1;have b2:(x.const == -1)=true:=Wz.2 h0.2;rw[UZ h0,<- hdl] at hF;have hW:=Fm (pj y a i) i r h3 (by omega) (by rw[hdg,hdl];exact hyg);obtain⟨w1,w2⟩:=Al (pj y a i) i r h3;have w3:=rq (pj y a i) i r _ (UU _);obtain⟨W,hWe⟩:∃W,W=lF (pj y a i) i r (pj y a i).cls.length:=⟨_,rfl⟩;rw[<- hWe] at hF hW w1 w2 w3
     repeat' first|refine ge (kf @hrx (kf @hlt (kf @hset (kf h3 (kf hr3 (kf b1 b2)))))) ?_|decide|refine sp ?_ ?_<;>intro _
     refine Ag [3] (R:=⟨.agg (cS W),[],0⟩) ?_ ?_ ?_
     .repeat' first|decide|refine go ?_
      exact hW
     .repeat' first|decide|refine go ?_
      left;simp[m8,pi,bD,dl]
     .repeat' first|refine ge @cX ?_|decide|refine sp ?_ ?_<;>intro _
      exact gv wC ⟨n,i,W,⟨by omega,by omega,⟨by omega,by omega,fun u hu=>hdo u (w3 u hu)⟩,by omega,hF⟩,rfl⟩ (by rw[mu0,mu0];omega)
    .rw [UX h0] at hF;by_cases h1:v=0
     .have b1:(v == 0)=true:=Wz.2 h1;have b2:(x.const == -1)=false:=Vv.2 fun e=>h0 ⟨h1,e⟩
      repeat' first|refine ge (kf @hrx (kf @hlt (kf @hset (kf h3 (kf hr3 (kf b1 b2)))))) ?_|decide|refine sp ?_ ?_<;>intro _
      refine gv ((tp _ 3).trans ?_) ⟨n,i+1,pj y a i,⟨by omega,by omega,⟨by omega,by rw[hdg];omega,hdo⟩,by rw[hdg,hdl];exact hyg,hF⟩,rfl⟩ (by rw[mu0,mu0];omega);simp only[iD,fk,bw,ae.gc,aB.frz,AV.frz,AV.frzL,↓reduceIte,Nat.reduceEqDiff,Vz,Nat.one_ne_zero,reduceCtorEq,Nat.succ_ne_self];exact(wE @hdz)
     .have b1:(v == 0)=false:=Vv.2 h1
      repeat' first|refine ge (kf @hrx (kf @hlt (kf @hset (kf h3 (kf hr3 b1))))) ?_|decide|refine sp ?_ ?_<;>intro _
      refine gv ((tp _ 3).trans ?_) ⟨n,i+1,pj y a i,⟨by omega,by omega,⟨by omega,by rw[hdg];omega,hdo⟩,by rw[hdg,hdl];exact hyg,hF⟩,rfl⟩ (by rw[mu0,mu0];omega);simp only[iD,fk,bw,ae.gc,aB.frz,AV.frz,AV.frzL,↓reduceIte,Nat.reduceEqDiff,Vz,Nat.one_ne_zero,reduceCtorEq,Nat.succ_ne_self];exact(wE @hdz)
  .obtain rfl:i=y.cls.length:=by omega
   have hq:Q=y:=by
    cases n with
    | zero=>exact hF.symm
    | succ n=>rw[uc,UZ (UU _)] at hF;exact hF.symm
   rw[hq]
   repeat' first|refine gf @hlt ?_|decide|refine sp ?_ ?_<;>intro _
   all_goals exact Bw rfl
 .have d0:((z.gaps.length:Int) != max ((z.cls.length:Int)-1) 0)=true:=by simp[hg]
  have hD:eD z a r=z:=UX hg;rw[hD]
  repeat' first|refine ge (kf ew d0) ?_|decide|refine sp ?_ ?_<;>intro _
  exact Bw rfl
end
end
section
section
theorem uI(l:List Int)(r:Int)(hl:l.length<=1000000):am Tryz.prog 165 [sI l,eI r] (gl 3 1 (l.map fun n=>[eI (bM n r)])):=by
 refine aa ag Tryz.func165 rfl (by decide) Tryz.ntmps165 Tryz.results165 rfl (cW _ _ _) ?_
 repeat' first|refine go ?_|decide|refine sp ?_ ?_<;>intro _
 refine af (fun st=>∃k:Nat,k<=l.length/\st=⟨23,[(0,sI l),(1,eI r),(5,.osl 0),(6,eI (k:Int))],[(0,some (.row 3 1 ((l.take k).map fun n=>[eI (bM n r)])))],1⟩) (fun st=>l.length-ax st 6) ⟨_,((bq 5 3 1 (by simp only[iC,aj.get,aX,aj.put,↓reduceIte,reduceCtorEq,Nat.reduceLT,Nat.reduceEqDiff,Nat.reduceAdd,Nat.reduceLeDiff,eq_self,implies_true,Va,Vn])).trans (wS [0] @Va)),0,UR _,rfl⟩ ?_;rintro _ ⟨k,hk,rfl⟩;by_cases hlt:k<l.length
 .have et:(l.take (k+1)).map (fun n=>[eI (bM n r)])=(l.take k).map (fun n=>[eI (bM n r)]) ++ [[eI (bM l[k] r)]]:=dm _ _ hlt;obtain⟨x,hx⟩:∃x,x=l[k]:=⟨_,rfl⟩;have hrow:(l.map fun n=>[eI n])[k]?.getD []=[eI x]:=by rw[hx];simp[hlt]
  rw[<- hx] at et;have hc:=np x r;have htl:(l.take k).length<=1000000:=by rw[U2];omega
  repeat' first|refine gf (kf @hrow @hlt) ?_|decide|refine sp ?_ ?_<;>intro _|refine cA hc ?_|(with_reducible apply And.intro)
  all_goals first
   | rfl
   | omega
   | exact rI (wS [2] et) ⟨k+1,by omega,rfl⟩
 .obtain rfl:k=l.length:=by omega
  repeat' first|refine gf (kf @hlt @U6) ?_|decide|refine sp ?_ ?_<;>intro _
  exact aV (by simp[ae.gc])
def ns(z:Zn)(r:Int):List Int:=z.gaps.map fun n=>bM n (r-1)
def gS(z:Zn)(a:Int)(at_:Nat)(r:Int)(ahead:Nat)(come:List Int)(behind:Nat):Zn:=⟨z.cls.take at_ ++ ⟨bn 0 a,-1⟩ :: z.cls.drop at_,(ns z r).take ahead ++ (come ++ (ns z r).drop behind)⟩
def nD(z:Zn):cu:=⟨.agg [.osl 0,.osl 1],[(0,some (.row 142 2 (z.cls.map du))),(1,some (.row 3 1 (z.gaps.map fun n=>[eI n])))],2⟩
theorem EB(z:Zn):(nD z).Ok:=fR (by simp[nD,bX,aB.lt,AV.ltL,AV.lt]) (by simp[nD,AV.lt,AV.ltL])
theorem rx(z:Zn)(a:Int)(at_:Nat)(r:Int)(ahead:Nat)(come:List Int)(behind:Nat){N:Nat}(hN:N<=1000000)(hz:nh N z)(ha:0<=a/\a<31)(hat:at_<=z.cls.length)(hah:ahead<=z.gaps.length)(hbe:behind<=z.gaps.length)(hco:come.length<=10)(hr:-1000000<=r/\r<=1000000) :
  am Tryz.prog 130 [.agg (cS z),eI a,eI (at_:Int),eI r,eI (ahead:Int),sI come,eI (behind:Int)] (nD (gS z a at_ r ahead come behind)):=by
 refine BZ Tryz.func130 rfl (by decide) Tryz.ntmps130 Tryz.results130 rfl (EB _) ?_;have er:IntKind.i64.wrap (r-1)=r-1:=aE (by omega) (by omega);have hcl:=hz.cl;have hga:=hz.ga;have hCl:=uI z.gaps (r-1) (by omega);have hP:=qL 0 a true (by simp[aA]) ha.1 ha.2;rw[UZ rfl] at hP;have hgl:(ns z r).length=z.gaps.length:=by simp[ns]
 have hgm:(z.gaps.map fun n=>[eI (bM n (r-1))])=(ns z r).map fun n=>[eI n]:=by simp[ns]
 rw[hgm] at hCl;have hClT:=am.still [0] hCl (r:=sI (ns z r)) (by simp[cu.frzs,cu.frz,gl,ae.gc,AV.frz]) (by simp[AV.lt]);have f0:List.drop (Int.toNat 0) (List.take at_ (z.cls.map du))=(z.cls.take at_).map du:=by simp
 have f1:List.drop at_ (List.take z.cls.length (z.cls.map du))=(z.cls.drop at_).map du:=by
  rw[Vg (by simp)];simp
 have f2:List.drop (Int.toNat 0) (List.take ahead ((ns z r).map fun n=>[eI n]))=((ns z r).take ahead).map fun n=>[eI n]:=by simp
 have f3:List.drop behind (List.take z.gaps.length ((ns z r).map fun n=>[eI n]))=((ns z r).drop behind).map fun n=>[eI n]:=by
  rw[Vg (by simp[hgl])];simp
 have l1:(z.cls.take at_).length<=1000000:=by rw[U2];omega
 have l2:(z.cls.drop at_).length<=1000000:=by rw[VO];omega
 have l3:((ns z r).take ahead).length<=1000000:=by rw[U2];omega
 have l4:((ns z r).drop behind).length<=1000000:=by rw[VO];omega
 have k2:(z.cls.take at_ ++ [(⟨bn 0 a,-1⟩:fo)]).length<=1000001:=by rw[UW];simp only[Vs];omega
 have k3:((ns z r).take ahead ++ come).length<=1000010:=by rw[UW];omega
 have m2:(z.cls.take at_ ++ [(⟨bn 0 a,-1⟩:fo)]).map du=(z.cls.take at_).map du ++ [[eI (bn 0 a),eI (-1)]]:=by simp
 have m3:(gS z a at_ r ahead come behind).cls.map du=(z.cls.take at_ ++ [(⟨bn 0 a,-1⟩:fo)]).map du ++ (z.cls.drop at_).map du:=by simp[gS]
 have m4:(((ns z r).take ahead ++ come).map fun n=>[eI n])=(((ns z r).take ahead).map fun n=>[eI n]) ++ come.map fun n=>[eI n]:=by simp
 have m5:((gS z a at_ r ahead come behind).gaps.map fun n=>[eI n])=(((ns z r).take ahead ++ come).map fun n=>[eI n]) ++ ((ns z r).drop behind).map fun n=>[eI n]:=by simp[gS]
 refine iO (fun st=>st=⟨66,[(1,eI a),(2,eI (at_:Int)),(3,eI r),(4,eI (ahead:Int)),(5,sI come),(6,eI (behind:Int)),(7,.op 0 0 0),(14,.op 1 0 0)],[(0,some (.box 54 (cS z))),(1,some (.box 54 [.c (.slice none 0 0),.c (.slice none 0 0)]))],2⟩) (jJ ag ?_) ?_
 .repeat' first|refine gq ?_|decide|refine sp ?_ ?_<;>intro _
  exact dZ wC rfl
 rintro _ rfl;refine iO (fun st=>st=⟨66,[(1,eI a),(2,eI (at_:Int)),(3,eI r),(4,eI (ahead:Int)),(5,sI come),(6,eI (behind:Int)),(7,.op 0 0 0),(14,.op 1 0 0),(15,.op 2 0 0)],[(0,some (.box 54 (cS z))),(1,some (.box 54 [.c (.slice none 0 0),.c (.slice none 0 0)])),(2,some (.box 54 [.osl 3,.osl 4])),(3,some (.row 142 2 ([]))),(4,some (.row 3 1 ([])))],5⟩) (jJ ag ?_) ?_
 .repeat' first|refine gq ?_|decide|refine sp ?_ ?_<;>intro _
  exact dZ ((cQ 2 0 142 2 (t:=54) (cells:=[.c (.slice none 0 0),.c (.slice none 0 0)]) (by simp[ae.gc]) rfl).trans ((cQ 2 1 3 1 (t:=54) (cells:=[.osl 3,.c (.slice none 0 0)]) (by simp[ae.gc]) rfl).trans (wE (kf @Wi @WQ)))) rfl
 rintro _ rfl;refine iO (fun st=>st=⟨66,[(1,eI a),(2,eI (at_:Int)),(3,eI r),(4,eI (ahead:Int)),(5,sI come),(6,eI (behind:Int)),(7,.op 0 0 0),(14,.op 1 0 0),(15,.op 2 0 0)],[(0,some (.box 54 (cS z))),(1,some (.box 54 [.c (.slice none 0 0),.c (.slice none 0 0)])),(2,some (.box 54 [.osl 3,.osl 4])),(3,some (.row 142 2 ((z.cls.take at_).map du))),(4,some (.row 3 1 ([])))],5⟩) (jJ ag ?_) ?_
 .repeat' first|refine go ?_|decide|refine sp ?_ ?_<;>intro _
  refine aG [2,3] [0,2,3,4,5] (.exec 1 (.exec 6 (.take 7 (.exec 8 .done)))) (by kernel_rfl) (by simp[ae.gc]) ?_
  repeat' first|refine gf (kf @hat f0) ?_|decide|refine sp ?_ ?_<;>intro _|(with_reducible apply And.intro)
  all_goals first
   | rfl
   | omega
   | exact dZ (wR [0,1,2,5,4]) rfl
 rintro _ rfl;refine iO (fun st=>st=⟨66,[(1,eI a),(2,eI (at_:Int)),(3,eI r),(4,eI (ahead:Int)),(5,sI come),(6,eI (behind:Int)),(7,.op 0 0 0),(14,.op 1 0 0),(15,.op 2 0 0)],[(0,some (.box 54 (cS z))),(1,some (.box 54 [.c (.slice none 0 0),.c (.slice none 0 0)])),(2,some (.box 54 [.osl 3,.osl 4])),(3,some (.row 142 2 ((z.cls.take at_ ++ [(⟨bn 0 a,-1⟩:fo)]).map du))),(4,some (.row 3 1 ([])))],5⟩) (jJ ag ?_) ?_
 .repeat' first|refine go ?_|decide|refine sp ?_ ?_<;>intro _
  refine aG [2,3] [0,2] (.two 1 (.exec 3 (.take 4 (.exec 5 (.exec 6 (.take 7 (.exec 8 .done)))))) 3 (.take 4 (.two 1 (.exec 5 (.exec 6 (.take 7 (.exec 8 .done)))) 5 (.exec 1 (.exec 6 (.take 7 (.exec 8 .done))))))) (by kernel_rfl) (by simp[ae.gc]) ?_
  repeat' first|refine gq ?_|decide|refine sp ?_ ?_<;>intro _|refine cA hP ?_|(with_reducible apply And.intro)
  all_goals first
   | rfl
   | omega
   | exact dZ (wS [0,1,2,6,4] m2) rfl
 rintro _ rfl;refine iO (fun st=>st=⟨66,[(1,eI a),(2,eI (at_:Int)),(3,eI r),(4,eI (ahead:Int)),(5,sI come),(6,eI (behind:Int)),(7,.op 0 0 0),(14,.op 1 0 0),(15,.op 2 0 0)],[(0,some (.box 54 (cS z))),(1,some (.box 54 [.c (.slice none 0 0),.c (.slice none 0 0)])),(2,some (.box 54 [.osl 3,.osl 4])),(3,some (.row 142 2 ((gS z a at_ r ahead come behind).cls.map du))),(4,some (.row 3 1 ([])))],5⟩) (jJ ag ?_) ?_
 .repeat' first|refine go ?_|decide|refine sp ?_ ?_<;>intro _
  refine aG [2,3] [0,2,3,4,5] (.exec 1 (.exec 6 (.take 7 (.exec 8 .done)))) (by kernel_rfl) (by simp[ae.gc]) ?_
  repeat' first|refine gf (kf @hat f1) ?_|decide|refine sp ?_ ?_<;>intro _|(with_reducible apply And.intro)
  all_goals first
   | rfl
   | omega
   | exact dZ (wS [0,1,2,5,4] m3) rfl
 rintro _ rfl;refine iO (fun st=>st=⟨66,[(1,eI a),(2,eI (at_:Int)),(3,eI r),(4,eI (ahead:Int)),(5,sI come),(6,eI (behind:Int)),(7,.op 0 0 0),(14,.op 1 0 0),(15,.op 2 0 0),(16,sI (ns z r))],[(0,some (.box 54 (cS z))),(1,some (.box 54 [.c (.slice none 0 0),.c (.slice none 0 0)])),(2,some (.box 54 [.osl 3,.osl 4])),(3,some (.row 142 2 ((gS z a at_ r ahead come behind).cls.map du))),(4,some (.row 3 1 ([])))],5⟩) (jJ ag ?_) ?_
 .repeat' first|refine gf er ?_|decide|refine sp ?_ ?_<;>intro _|refine cA hClT ?_|fail
  all_goals exact dZ wC rfl
 rintro _ rfl;refine iO (fun st=>st=⟨66,[(1,eI a),(2,eI (at_:Int)),(3,eI r),(4,eI (ahead:Int)),(5,sI come),(6,eI (behind:Int)),(7,.op 0 0 0),(14,.op 1 0 0),(15,.op 2 0 0),(16,sI (ns z r))],[(0,some (.box 54 (cS z))),(1,some (.box 54 [.c (.slice none 0 0),.c (.slice none 0 0)])),(2,some (.box 54 [.osl 3,.osl 4])),(3,some (.row 142 2 ((gS z a at_ r ahead come behind).cls.map du))),(4,some (.row 3 1 (((ns z r).take ahead).map fun n=>[eI n])))],5⟩) (jJ ag ?_) ?_
 .repeat' first|refine go ?_|decide|refine sp ?_ ?_<;>intro _
  refine aG [2,4] [0,2,3,4] (.exec 1 (.exec 5 (.take 6 (.exec 7 .done)))) (by kernel_rfl) (by simp[ae.gc]) ?_
  repeat' first|refine gf (kf @hah (kf @hgl f2)) ?_|decide|refine sp ?_ ?_<;>intro _|(with_reducible apply And.intro)
  all_goals first
   | rfl
   | omega
   | exact dZ (wR [0,1,2,3,5]) rfl
 rintro _ rfl;refine iO (fun st=>st=⟨66,[(1,eI a),(2,eI (at_:Int)),(3,eI r),(4,eI (ahead:Int)),(5,sI come),(6,eI (behind:Int)),(7,.op 0 0 0),(14,.op 1 0 0),(15,.op 2 0 0),(16,sI (ns z r))],[(0,some (.box 54 (cS z))),(1,some (.box 54 [.c (.slice none 0 0),.c (.slice none 0 0)])),(2,some (.box 54 [.osl 3,.osl 4])),(3,some (.row 142 2 ((gS z a at_ r ahead come behind).cls.map du))),(4,some (.row 3 1 (((ns z r).take ahead ++ come).map fun n=>[eI n])))],5⟩) (jJ ag ?_) ?_
 .repeat' first|refine gq ?_|decide|refine sp ?_ ?_<;>intro _|(with_reducible apply And.intro)
  all_goals first
   | rfl
   | omega
   | exact dZ (wS [0,1,2,3,5] m4) rfl
 rintro _ rfl;refine iO (fun st=>st=⟨66,[(1,eI a),(2,eI (at_:Int)),(3,eI r),(4,eI (ahead:Int)),(5,sI come),(6,eI (behind:Int)),(7,.op 0 0 0),(14,.op 1 0 0),(15,.op 2 0 0),(16,sI (ns z r))],[(0,some (.box 54 (cS z))),(1,some (.box 54 [.c (.slice none 0 0),.c (.slice none 0 0)])),(2,some (.box 54 [.osl 3,.osl 4])),(3,some (.row 142 2 ((gS z a at_ r ahead come behind).cls.map du))),(4,some (.row 3 1 ((gS z a at_ r ahead come behind).gaps.map fun n=>[eI n])))],5⟩) (jJ ag ?_) ?_
 .repeat' first|refine go ?_|decide|refine sp ?_ ?_<;>intro _
  refine aG [2,4] [0,2,3,4] (.exec 1 (.exec 5 (.take 6 (.exec 7 .done)))) (by kernel_rfl) (by simp[ae.gc]) ?_
  repeat' first|refine gf (kf @hbe (kf @hgl f3)) ?_|decide|refine sp ?_ ?_<;>intro _|(with_reducible apply And.intro)
  all_goals first
   | rfl
   | omega
   | exact dZ (wS [0,1,2,3,5] m5) rfl
 rintro _ rfl;refine jJ ag ?_
 repeat' first|refine gq ?_|decide|refine sp ?_ ?_<;>intro _
 all_goals exact⟨[3,4],by decide,rfl,by simp[b6,nD,ae.gc]⟩
theorem k9(z:Zn):(nD z).r.plain/\(nD z).tab.plain:=by
 refine⟨⟨trivial,trivial,trivial⟩,?_⟩;simp only[nD];refine⟨fun row hr av ha=>?_,fun row hr av ha=>?_,trivial⟩
 .obtain ⟨x,_,rfl⟩:=U3.1 hr;simp at ha;rcases ha with rfl|rfl<;>trivial
 .obtain ⟨x,_,rfl⟩:=U3.1 hr;simp at ha;subst ha;trivial
def yh(z:Zn)(a:Int)(i:Nat)(r:Int):Zn:=⟨z.cls.set i ⟨bn (z.cls.getD i default).attrs a,(z.cls.getD i default).const⟩,ns z r⟩
theorem Sf(z:Zn)(a:Int)(i:Nat)(r:Int){N:Nat}(hN:N<=1000000)(hz:nh N z)(ha:0<=a/\a<31)(hi:i<z.cls.length)(hr:-1000000<=r/\r<=1000000):am Tryz.prog 131 [.agg (cS z),eI a,eI (i:Int),eI r] ⟨.agg (cS (yh z a i r)),[],0⟩:=by
 refine am.still (R:=nD (yh z a i r)) [0,1] ?_ (by simp[nD,cu.frzs,cu.frz,ae.gc,AV.frz,AV.frzL,bw,aB.frz]) (by simp[AV.lt,AV.ltL]);refine aa ag Tryz.func131 rfl (by decide) Tryz.ntmps131 Tryz.results131 rfl (EB _) ?_;have er:IntKind.i64.wrap (r-1)=r-1:=aE (by omega) (by omega);have hcl:=hz.cl;have hga:=hz.ga;obtain⟨x,hx⟩:∃x,z.cls[i]=x:=⟨_,rfl⟩;have hxg:z.cls.getD i default=x:=by rw[Os,p0 hi,<- hx];rfl
 have hrx:(z.cls.map du)[i]?.getD []=du x:=by simp[hi,hx]
 have hxo:aA x.attrs:=hz.at_ x (hx ▸ UQ hi);have hP:=qL x.attrs a true hxo ha.1 ha.2;rw[UZ rfl] at hP;have hCl:=uI z.gaps (r-1) (by omega);have hgm:(z.gaps.map fun n=>[eI (bM n (r-1))])=(yh z a i r).gaps.map fun n=>[eI n]:=by simp[yh,ns]
 rw[hgm] at hCl;have hset:(z.cls.map du).set i [eI (bn x.attrs a),eI x.const]=(yh z a i r).cls.map du:=by rw[yh,hxg,WH]
 repeat' first|refine ge (kf @hrx hi) ?_|decide|refine sp ?_ ?_<;>intro _
 refine⟨rfl,⟨by omega,by omega⟩,?_⟩;refine al hP ?_
 repeat' first|refine ge (kf @hrx (kf hi (kf @hset er))) ?_|decide|refine sp ?_ ?_<;>intro _
 refine dg hCl (.inr bk) ?_
 repeat' first|refine go ?_|decide|refine sp ?_ ?_<;>intro _
 exact⟨[3,4],by decide,rfl,by simp[b6,nD,ae.gc]⟩
def CA(st:aj)(j:Nat):Nat:=match st.get j with
 | .c (.int _ k)=>(k+1).toNat
 | _=>0
def qe(z:Zn)(a r:Int)(M k:Nat):List Zn:=(List.range k).map fun(j:Nat)=>gS z a 0 r 0 [((M-j:Nat):Int)] 0
def kb(z:Zn)(a r:Int)(i j:Nat):List Zn:=yh z a i r :: ((qn (z.gaps.getD i 0) r).take j).map fun p=>gS z a (i+1) r i [p.1,p.2] (i+1)
def iy(z:Zn)(a r:Int):Nat->List Zn
 | 0=>[]
 | i+1=>iy z a r i ++ (if i+1<z.cls.length then kb z a r i (qn (z.gaps.getD i 0) r).length else [yh z a i r])
def qU(z:Zn)(a r:Int)(k:Nat):List Zn:=(List.range k).map fun(j:Nat)=>gS z a z.cls.length r (z.cls.length-1) [(j:Int)] (z.cls.length-1)
def gM(z:Zn)(a r:Int):List Zn:=
 if r<1\/a<0\/30<a\/(z.gaps.length:Int)≠max ((z.cls.length:Int)-1) 0 then []
 else if z.cls.any (fun x=>aQ x.attrs a)=true then []
 else if z.cls.length=0 then [gS z a 0 r 0 [] 0]
 else qe z a r (aY (r-1)).toNat ((aY (r-1)).toNat+1) ++ iy z a r z.cls.length ++ qU z a r ((aY (r-1)).toNat+1)
theorem sF(z:Zn)(a r:Int)(M k:Nat):(qe z a r M k).length=k:=by simp[qe]
theorem Bf(z:Zn)(a r:Int)(k:Nat):(qU z a r k).length=k:=by simp[qU]
theorem t5(z:Zn)(a r:Int):∀i,(iy z a r i).length<=i * (1+((aY (r-1)).toNat+1) * ((aY (r-1)).toNat+1))
 | 0=>by simp[iy]
 | i+1=>by
  have h1:=t5 z a r i;have h2:=Ar (z.gaps.getD i 0) r;rw[iy,UW,Xk];split
  .simp only[kb,Vl,Vd,U6];omega
  .simp only[Vs];omega
theorem QW{r:Int}(h:r<=4):(aY (r-1)).toNat<=7:=by
 have h0:min (r-1).toNat 20<=3:=by omega
 have h1:(2:Nat) ^ (min (r-1).toNat 20)<=2 ^ 3:=Vp (by omega) h0;have h2:((2 ^ (min (r-1).toNat 20):Nat):Int)=(2:Int) ^ (min (r-1).toNat 20):=by simp
 unfold aY;omega
theorem Oo(z:Zn)(a r:Int){N:Nat}(hN:N<=1000)(hz:nh N z)(hr:-100000<=r/\r<=4):am Tryz.prog 90 [.agg (cS z),eI a,eI r] ⟨.sl 2 ((gM z a r).map cS),[],0⟩:=by
 refine jP 54 ?_;refine bj ag Tryz.func90 rfl (by decide) Tryz.ntmps90 Tryz.results90 rfl ?_;have hcl:=hz.cl;have hga:=hz.ga;have er:IntKind.i64.wrap (r-1)=r-1:=aE (by omega) (by omega);have ew:IntKind.i64.wrap ((z.cls.length:Int)-1)=(z.cls.length:Int)-1:=aE (by omega) (by omega);by_cases hbad:r<1\/a<0\/30<a\/(z.gaps.length:Int)≠max ((z.cls.length:Int)-1) 0
 .have hP:gM z a r=[]:=UZ hbad;rw[hP];by_cases h1:r<1
  .have d1:decide (r<1)=true:=Vb h1
   repeat' first|refine gf (kf d1 ew) ?_|decide|refine sp ?_ ?_<;>intro _
   all_goals exact cK (jD rfl)
  .have d1:decide (r<1)=false:=U5 h1;by_cases h2:a<0
   .have d2:decide (a<0)=true:=Vb h2
    repeat' first|refine gf (kf d1 (kf d2 ew)) ?_|decide|refine sp ?_ ?_<;>intro _
    all_goals exact cK (jD rfl)
   .have d2:decide (a<0)=false:=U5 h2;by_cases h3:30<a
    .have d3:decide (30<a)=true:=Vb h3
     repeat' first|refine gf (kf d1 (kf d2 (kf d3 ew))) ?_|decide|refine sp ?_ ?_<;>intro _
     all_goals exact cK (jD rfl)
    .have d3:decide (30<a)=false:=U5 h3;have d4:((z.gaps.length:Int) != max ((z.cls.length:Int)-1) 0)=true:=bne_iff_ne.2 (by omega)
     repeat' first|refine gf (kf d1 (kf d2 (kf d3 (kf d4 ew)))) ?_|decide|refine sp ?_ ?_<;>intro _
     all_goals exact cK (jD rfl)
 .have d1:decide (r<1)=false:=U5 (by omega);have d2:decide (a<0)=false:=U5 (by omega);have d3:decide (30<a)=false:=U5 (by omega);have d4:((z.gaps.length:Int) != max ((z.cls.length:Int)-1) 0)=false:=bne_eq_false_iff_eq.2 (by omega);have hP0:gM z a r=if z.cls.any (fun x=>aQ x.attrs a)=true then [] else if z.cls.length=0 then [gS z a 0 r 0 [] 0] else qe z a r (aY (r-1)).toNat ((aY (r-1)).toNat+1) ++ iy z a r z.cls.length ++ qU z a r ((aY (r-1)).toNat+1):=UX hbad
  repeat' first|refine gf (kf d1 (kf d2 (kf d3 (kf d4 ew)))) ?_|decide|refine sp ?_ ?_<;>intro _
  refine af (fun st=>∃i:Nat,(i<=z.cls.length/\(z.cls.take i).any (fun x=>aQ x.attrs a)=false)/\st=⟨148,[(1,eI a),(2,eI r),(3,.op 0 0 0),(7,eI (z.cls.length:Int)),(8,eI (i:Int))],[(0,some (.box 54 (cS z)))],1⟩) (fun st=>z.cls.length-ax st 8) ⟨_,wC,0,⟨UR _,rfl⟩,rfl⟩ ?_;rintro _ ⟨i,⟨hi,hany⟩,rfl⟩;by_cases hlt:i<z.cls.length
  .obtain ⟨x,hx⟩:∃x,z.cls[i]=x:=⟨_,rfl⟩;have hrx:(z.cls.map du)[i]?.getD []=du x:=(by simp[hlt,hx]);have hxo:aA x.attrs:=hz.at_ x (hx ▸ UQ hlt);have hH:=eQ x.attrs a hxo;have hn:(z.cls.take (i+1)).any (fun x=>aQ x.attrs a)=aQ x.attrs a:=by rw[U0 hlt,List.any_append,hany,hx];simp
   cases hb:aQ x.attrs a with
   | true=>
    have hall:z.cls.any (fun x=>aQ x.attrs a)=true:=WS.2 ⟨x,hx ▸ UQ hlt,hb⟩;rw[hP0,UZ hall];rw[hb] at hH
    repeat' first|refine gf (kf @hrx @hlt) ?_|decide|refine sp ?_ ?_<;>intro _|refine cA hH ?_|fail
    all_goals exact cK (jD rfl)
   | false=>
    rw[hb] at hH hn
    repeat' first|refine gf (kf @hrx @hlt) ?_|decide|refine sp ?_ ?_<;>intro _|refine cA hH ?_|fail
    all_goals exact rI wC ⟨i+1,⟨by omega,hn⟩,rfl⟩
  .obtain rfl:i=z.cls.length:=by omega
   rw[U6] at hany;rw[hP0,UX (by rw[hany];simp)];by_cases h0:z.cls.length=0
   .have b0:((z.cls.length:Int) == 0)=true:=Wz.2 (by omega);have hO:=(rx z a 0 r 0 [] 0 (by omega) hz ⟨by omega,by omega⟩ (UR _) (UR _) (UR _) (by simp) ⟨by omega,by omega⟩).fits (args:=[.agg (cS z),eI a,eI 0,eI r,eI 0,.c (.slice none 0 0),eI 0]) ⟨.one (.refl _),.one (.refl _),.one (.refl _),.one (.refl _),.one (.refl _),.one (.nil 1),.one (.refl _),trivial⟩;rw[UZ h0]
    repeat' first|refine gf (kf @hlt b0) ?_|decide|refine sp ?_ ?_<;>intro _
    refine pg hO (.inr (k9 _)) ?_
    repeat' first|refine go ?_|simp only[nD,cX,fw,fA,aB.shift]|decide|refine sp ?_ ?_<;>intro _
    all_goals exact⟨rfl,zQ rfl lp⟩
   .have b0:((z.cls.length:Int) == 0)=false:=Vv.2 (by omega);rw[UX h0];have hCap:=uW (r-1);have h4:=QW hr.2;have hp1:=fM (r-1);obtain⟨M,hM⟩:∃M:Nat,aY (r-1)=(M:Int):=⟨(aY (r-1)).toNat,by omega⟩;have hMn:(aY (r-1)).toNat=M:=(by omega);have hBl:=t5 z a r;rw[hMn] at h4 hBl ⊢;rw[hM] at hCap;have hgn:z.gaps.length=z.cls.length-1:=(by omega);have hro:-1000000<=r/\r<=1000000:=⟨by omega,by omega⟩;have hao:0<=a/\a<31:=⟨by omega,by omega⟩
    have hBb:∀i,i<=1000->(iy z a r i).length<=65000:=fun i hi=>by
     have h1:=hBl i;have h2:(M+1) * (M+1)<=8 * 8:=WI (by omega) (by omega);have h3:i * (1+(M+1) * (M+1))<=1000 * 65:=WI hi (by omega);omega
    repeat' first|refine gf (kf @hlt (kf b0 er)) ?_|decide|refine sp ?_ ?_<;>intro _|refine cA hCap ?_|fail
    refine af (fun st=>∃k:Nat,k<=M+1/\st=⟨148,[(1,eI a),(2,eI r),(3,.op 0 0 0),(7,eI (z.cls.length:Int)),(9,.osl 1),(10,eI (M:Int)),(11,eI ((M:Int)-(k:Int)))],[(0,some (.box 54 (cS z))),(1,some (.row 54 2 ((qe z a r M k).map cS)))],2⟩) (fun st=>CA st 11) ⟨_,((bq 9 54 2 (by simp only[iC,aj.get,aX,aj.put,↓reduceIte,reduceCtorEq,Nat.reduceLT,Nat.reduceEqDiff,Nat.reduceAdd,Nat.reduceLeDiff,eq_self,implies_true,qe,Wx,Vn,Int.sub_zero,Int.natCast_zero])).trans (wS [0,1] (kf @qe.eq_1 (kf @Wx (kf @Int.sub_zero @Int.natCast_zero))))),0,UR _,rfl⟩ ?_;rintro _ ⟨k,hk,rfl⟩;by_cases hkM:k<=M
    .have he:(M:Int)-(k:Int)=((M-k:Nat):Int):=(by omega);have e1:IntKind.i64.wrap (((M-k:Nat):Int)-1)=(M:Int)-((k+1:Nat):Int):=by rw[aE (by omega) (by omega)];omega
     have hO:=rx z a 0 r 0 [((M-k:Nat):Int)] 0 (by omega) hz hao (UR _) (UR _) (UR _) (by simp) hro;have et:(qe z a r M (k+1)).map cS=(qe z a r M k).map cS ++ [cS (gS z a 0 r 0 [((M-k:Nat):Int)] 0)]:=(by simp[qe,V5]);have hal:=sF z a r M k
     have m1:∀(e:List (Nat×AV))(t:ae)(nx:Nat),CA ⟨148,(1,eI a) :: (2,eI r) :: (3,.op 0 0 0) :: (7,eI (z.cls.length:Int)) :: (9,.osl 1) :: (10,eI (M:Int)) :: (11,eI ((M:Int)-((k+1:Nat):Int))) :: e,t,nx⟩ 11=M-k:=fun e t nx=>by
      show((M:Int)-((k+1:Nat):Int)+1).toNat=M-k;omega
     have m2:∀(e:List (Nat×AV))(t:ae)(nx:Nat),CA ⟨148,(1,eI a) :: (2,eI r) :: (3,.op 0 0 0) :: (7,eI (z.cls.length:Int)) :: (9,.osl 1) :: (10,eI (M:Int)) :: (11,eI ((M-k:Nat):Int)) :: e,t,nx⟩ 11=M-k+1:=fun e t nx=>by
      show(((M-k:Nat):Int)+1).toNat=M-k+1;omega
     rw[he];obtain⟨O,hOe⟩:∃O,O=qe z a r M k:=⟨_,rfl⟩;rw[<- hOe] at et hal ⊢
     repeat' first|refine go ?_|decide|refine sp ?_ ?_<;>intro _
     refine⟨rfl,?_⟩;refine pg hO (.inr (k9 _)) ?_
     repeat' first|refine gq ?_|simp only[nD,cX,fw,fA,aB.shift]|decide|refine sp ?_ ?_<;>intro _|(with_reducible apply And.intro)
     all_goals first
      | rfl
      | omega
      | exact gv (wS [0,6] (kf et (kf @hOe e1))) ⟨k+1,by omega,rfl⟩ (by rw[m1,m2];omega)
    .obtain rfl:k=M+1:=by omega
     have e0:decide ((0:Int)<=(M:Int)-((M+1:Nat):Int))=false:=U5 (by omega);have hal:=sF z a r M (M+1);obtain⟨O,hOe⟩:∃O,O=qe z a r M (M+1):=⟨_,rfl⟩;rw[<- hOe] at hal ⊢
     repeat' first|refine gf e0 ?_|decide|refine sp ?_ ?_<;>intro _
     refine af (fun st=>∃i:Nat,i<=z.cls.length/\st=⟨148,[(1,eI a),(2,eI r),(3,.op 0 0 0),(7,eI (z.cls.length:Int)),(9,.osl 1),(10,eI (M:Int)),(12,eI (i:Int))],[(0,some (.box 54 (cS z))),(1,some (.row 54 2 ((O ++ iy z a r i).map cS)))],2⟩) (fun st=>z.cls.length-ax st 12) ⟨_,(wE (kf @iy.eq_1 @iy.eq_2)),0,UR _,rfl⟩ ?_;rintro _ ⟨i,hi,rfl⟩;have hPl:=hBb i (by omega);obtain⟨P,hPe⟩:∃P,P=O ++ iy z a r i:=⟨_,rfl⟩;have hPl2:P.length<=66000:=by rw[hPe,UW];omega
     rw[<- hPe];by_cases hli:i<z.cls.length
     .have hIn:=Sf z a i r (by omega) hz hao hli hro;have e2:IntKind.i64.wrap ((z.cls.length:Int)-1)=((z.cls.length-1:Nat):Int):=by rw[aE (by omega) (by omega)];omega
      have ei:IntKind.i64.wrap ((i:Int)+1)=((i+1:Nat):Int):=by rw[aE (by omega) (by omega)];omega
      by_cases hl2:i+1<z.cls.length
      .have hl3:i<z.cls.length-1:=(by omega);have hig:i<z.gaps.length:=(by omega);obtain⟨g,hg⟩:∃g,g=z.gaps[i]:=⟨_,rfl⟩;have hrg:(z.gaps.map fun n=>[eI n])[i]?.getD []=[eI g]:=by rw[hg];simp[hig]
       have hgd:z.gaps.getD i 0=g:=by rw[hg];simp[List.getD,hig]
       have hS:=Ig g r hro;have hSl:=Ar g r;rw[hMn] at hSl;have hSl2:(qn g r).length<=64:=Vj hSl (WI (show M+1<=8 by omega) (show M+1<=8 by omega));have hB1:∀j,kb z a r i j=yh z a i r :: ((qn g r).take j).map fun p=>gS z a (i+1) r i [p.1,p.2] (i+1):=fun j=>by rw[kb,hgd]
       have hBs:iy z a r (i+1)=iy z a r i ++ kb z a r i (qn g r).length:=(by rw[iy,UZ hl2,hgd]);obtain⟨S,hSe⟩:∃S,S=qn g r:=⟨_,rfl⟩;rw[<- hSe] at hS hSl2 hB1 hBs;have et0:(P ++ kb z a r i 0).map cS=P.map cS ++ [cS (yh z a i r)]:=by rw[hB1];simp
       repeat' first|refine gf (kf @hli (kf hl2 (kf hl3 (kf e2 (kf @hrg @hig))))) ?_|decide|refine sp ?_ ?_<;>intro _|refine cA hIn ?_|refine cA hS ?_|(with_reducible apply And.intro)
       all_goals first
        | rfl
        | omega
        | skip
       refine af (fun st=>∃j:Nat,j<=S.length/\st=⟨148,[(1,eI a),(2,eI r),(3,.op 0 0 0),(7,eI (z.cls.length:Int)),(9,.osl 1),(10,eI (M:Int)),(12,eI (i:Int)),(13,.sl 2 (S.map eP)),(14,eI (j:Int))],[(0,some (.box 54 (cS z))),(1,some (.row 54 2 ((P ++ kb z a r i j).map cS)))],2⟩) (fun st=>S.length-ax st 14) ⟨_,(wS [0,3] et0),0,UR _,rfl⟩ ?_;rintro _ ⟨j,hj,rfl⟩;have hQl:(P ++ kb z a r i j).length<=66100:=by rw[hB1,UW,Vl,Vd,U2];omega
       by_cases hlj:j<S.length
       .obtain ⟨p,hp⟩:∃p,p=S[j]:=⟨_,rfl⟩;have hrp:(S.map eP)[j]?.getD []=eP p:=by rw[hp];simp[hlj]
        have q0:List.drop (Int.toNat 0 * 1) (eP p)=[eI p.1,eI p.2]:=rfl;have q1:List.drop (Int.toNat 1 * 1) (eP p)=[eI p.2]:=rfl;have hO:=rx z a (i+1) r i [p.1,p.2] (i+1) (by omega) hz hao (by omega) (by omega) (by omega) (by simp) hro
        have et:(P ++ kb z a r i (j+1)).map cS=(P ++ kb z a r i j).map cS ++ [cS (gS z a (i+1) r i [p.1,p.2] (i+1))]:=by
         rw[hB1,hB1,U0 hlj,<- hp];simp
        obtain⟨Q,hQ⟩:∃Q,Q=P ++ kb z a r i j:=⟨_,rfl⟩;rw[<- hQ] at et hQl ⊢
        repeat' first|refine ge @hlj ?_|decide|refine sp ?_ ?_<;>intro _
        refine aG [1] [0,1,2,3,4,5,6,7,8,9,10,11,12,13,14,15,16,18,19] (.exec 17 (.exec 20 (.exec 21 (.exec 22 (.exec 23 .done))))) (by kernel_rfl) (by simp[ae.gc]) ?_
        repeat' first|refine ge (kf @hlj (kf @hrp (kf q0 (kf q1 (kf Um (kf Ux (kf Un ei))))))) ?_|decide|refine sp ?_ ?_<;>intro _
        refine⟨rfl,?_⟩;refine pg hO (.inr (k9 _)) ?_
        repeat' first|refine gq ?_|simp only[nD,cX,fw,fA,aB.shift]|decide|refine sp ?_ ?_<;>intro _|(with_reducible apply And.intro)
        all_goals first
         | rfl
         | omega
         | exact rI (wS [0,6] (kf et hQ)) ⟨j+1,by omega,rfl⟩
       .obtain rfl:j=S.length:=by omega
        have hn:P ++ kb z a r i S.length=O ++ iy z a r (i+1):=(by rw[hBs,hPe,Vw]);rw[hn]
        repeat' first|refine gf @hlj ?_|decide|refine sp ?_ ?_<;>intro _
        all_goals exact rI wC ⟨i+1,by omega,rfl⟩
      .have hl3:¬i<z.cls.length-1:=(by omega);have hBs:iy z a r (i+1)=iy z a r i ++ [yh z a i r]:=(by rw[iy,UX hl2]);have et:(O ++ iy z a r (i+1)).map cS=P.map cS ++ [cS (yh z a i r)]:=by rw[hBs,hPe];simp
       repeat' first|refine gf (kf @hli (kf hl2 (kf hl3 e2))) ?_|decide|refine sp ?_ ?_<;>intro _|refine cA hIn ?_|(with_reducible apply And.intro)
       all_goals first
        | rfl
        | omega
        | exact rI (wS [0,3] et) ⟨i+1,by omega,rfl⟩
     .obtain rfl:i=z.cls.length:=by omega
      repeat' first|refine gf @hli ?_|decide|refine sp ?_ ?_<;>intro _
      refine af (fun st=>∃j:Nat,j<=M+1/\st=⟨148,[(1,eI a),(2,eI r),(3,.op 0 0 0),(7,eI (z.cls.length:Int)),(9,.osl 1),(10,eI (M:Int)),(15,eI (j:Int))],[(0,some (.box 54 (cS z))),(1,some (.row 54 2 ((P ++ qU z a r j).map cS)))],2⟩) (fun st=>M+1-ax st 15) ⟨_,(wE (kf @qU.eq_1 @Wx)),0,UR _,rfl⟩ ?_;rintro _ ⟨j,hj,rfl⟩;have hCl:=Bf z a r j;by_cases hlj:j<=M
      .have hO:=rx z a z.cls.length r (z.cls.length-1) [(j:Int)] (z.cls.length-1) (by omega) hz hao (UU _) (by omega) (by omega) (by simp) hro;have e2:IntKind.i64.wrap ((z.cls.length:Int)-1)=((z.cls.length-1:Nat):Int):=by rw[aE (by omega) (by omega)];omega
       have et:(P ++ qU z a r (j+1)).map cS=(P ++ qU z a r j).map cS ++ [cS (gS z a z.cls.length r (z.cls.length-1) [(j:Int)] (z.cls.length-1))]:=(by simp[qU,V5]);have hQl:(P ++ qU z a r j).length<=66100:=by rw[UW];omega
       obtain⟨Q,hQ⟩:∃Q,Q=P ++ qU z a r j:=⟨_,rfl⟩;rw[<- hQ] at et hQl ⊢
       repeat' first|refine ge (kf @hlj e2) ?_|decide|refine sp ?_ ?_<;>intro _
       refine⟨rfl,?_⟩;refine pg hO (.inr (k9 _)) ?_
       repeat' first|refine gq ?_|simp only[nD,cX,fw,fA,aB.shift]|decide|refine sp ?_ ?_<;>intro _|(with_reducible apply And.intro)
       all_goals first
        | rfl
        | omega
        | exact rI (wS [0,6] (kf et hQ)) ⟨j+1,by omega,rfl⟩
      .obtain rfl:j=M+1:=by omega
       rw[hPe]
       repeat' first|refine gf @hlj ?_|decide|refine sp ?_ ?_<;>intro _
       all_goals exact zQ rfl lp
end
section
structure Pt where
 n:Int
 a:Int
 c:Int
 t:Int
instance:Inhabited Pt:=⟨⟨0,0,0,0⟩⟩
def UJ(x y:Pt):Bool:=decide (x.n<y.n) || (decide (x.n=y.n) && decide (x.t<=y.t))
def UB(l:List Pt):List Pt:=l.mergeSort UJ
def Gf(bs:Nat):Nat->List Pt->List Pt
 | 0,l=>UB l
 | f+1,l=>if bs<=l.length then UB (l.take bs) ++ Gf bs f (l.drop bs) else UB l
def G(bs:Nat)(l:List Pt):List Pt:=Gf bs l.length l
end
section
end
section
end
section
def TS(a b:Int):Int:=bits .or .i64 a b
theorem F7(a i:Nat)(ha:a<2 ^ 31)(hi:i<31):bn (a:Int) (i:Int)=((a ||| 2 ^ i:Nat):Int):=by
 unfold bn;rw[UZ (by omega),nC a ha,VD]
theorem p4(vals:List Int)(m:Int):∀k,k<=31->∃a:Nat,cn vals m k=(a:Int)/\a<2 ^ 31
 | 0,_=>⟨0,rfl,by decide⟩
 | k+1,hk=>by
  obtain⟨a,ha,hlt⟩:=p4 vals m k (by omega);unfold cn;split
  .exact ⟨a ||| 2 ^ k,by rw[ha,F7 a k hlt (by omega)],Wq hlt (Wg (by decide) (by omega))⟩
  .exact ⟨a,ha,hlt⟩
end
section
theorem CG(r:Int):0<=aY r:=by
 have h1:1<=(2:Nat) ^ (min r.toNat 20):=WR;have h2:((2 ^ (min r.toNat 20):Nat):Int)=(2:Int) ^ (min r.toNat 20):=by simp
 unfold aY;omega
end
end
end Go.Proofs.YtglaiabelcefeaaGreat
