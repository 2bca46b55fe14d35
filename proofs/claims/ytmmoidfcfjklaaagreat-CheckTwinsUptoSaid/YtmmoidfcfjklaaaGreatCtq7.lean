/-
  Parts of the proof: Ctp14, Ctp15, Ctp16, Ctp17.
-/
import Derived.Test.YtmmoidfcfjklaaaGreatCtq6
import Derived.Test.YtmmoidfcfjklaaaGreatProg
import Derived.DeepKeys4
import Derived.WalkKit
import Derived.Deep.OwnRows
import Derived.Deep.RegionWith
import Derived.Maps.AppendAt
set_option linter.unusedVariables false
set_option linter.unusedSimpArgs false
set_option linter.defProp false
set_option maxRecDepth 100000
set_option maxHeartbeats 16000000
namespace Go.Proofs.YtmmoidfcfjklaaaGreat
open Go.RowKit
section
section
theorem zk {c:List Int} (hc:Up c) {n:Int} {q:Nat} (hq:q<c.length) (h:c[q]=n):vF c n=q:=by
 have hp:=Wk.1 hc;exact (u1 c n hc q (by omega) (fun h0=>by rw [<- h];exact hp (q - 1) q (by omega) hq (by omega)) (fun _=>by omega)).1
theorem NN {c:List Int} (hc:Up c) (a n:Int) (x:fQ):Dg c a n x=((a != -1 && bp x.attrs a) || (a == -1 && (decide (0<=x.const) && decide (x.const<(c.length:Int)) && (c.getD x.const.toNat 0 == n)))):=by
 have key:(decide (n ∈ c) && x.const == (vF c n:Int))=(decide (0<=x.const) && decide (x.const<(c.length:Int)) && (c.getD x.const.toNat 0 == n)):=by
  rw [Wo];simp only [Vw,VG,Wv];constructor
  .rintro ⟨h1,h2⟩;obtain ⟨i,hi,he⟩:=VB h1;rw [zk hc hi he] at h2;rw [h2];refine ⟨⟨by omega,by omega⟩,?_⟩;rw [WA,Vl,f4 hi];exact he
  .rintro ⟨⟨h1,h2⟩,h3⟩;obtain ⟨q,hq⟩:∃ q:Nat,x.const=(q:Int):=⟨x.const.toNat,by omega⟩;rw [hq] at h2 h3 ⊢;have hql:q<c.length:=(by omega);rw [WA,Vl,f4 hql] at h3;have h3:c[q]=n:=h3;exact ⟨h3 ▸ Vf hql,by rw [zk hc hql h3]⟩
 unfold Dg;rw [Bool.and_assoc,key]
theorem n6 (z:Zn) (consts:List Int) (a n:Int) (h1:z.cls.length<=1000000) (h2:consts.length<=1000) (ho:∀ x ∈ z.cls,aI x.attrs):aw Tryz.prog 99 [.agg (cu z),sI consts,.agg [eI a,eI n]] (val (.int .i64 (eQ z consts a n))):=by
 refine aa ag Tryz.func99 rfl (by decide) Tryz.ntmps99 Tryz.results99 rfl (aL _) ?_;have hlen:=fy consts;have hup:=(il consts).1;unfold eQ;have hS:=fY consts (by omega);obtain ⟨c,hc⟩:∃ c,bV consts=c:=⟨_,rfl⟩;rw [hc] at hS hlen hup ⊢;obtain ⟨p,hp⟩:∃ p,Dg c a n=p:=⟨_,rfl⟩;rw [hp]
 repeat' first|refine gq ?_|decide|refine sp ?_ ?_<;>intro _|refine cA hS ?_|fail
 refine af (fun st=>∃ k:Nat,k<=z.cls.length /\ (∀ i (h:i<z.cls.length),i<k -> p z.cls[i]=false) /\ st=⟨61,[(3,.op 0 0 0),(5,.op 1 0 0),(7,sI c),(8,eI (k:Int))],[(0,some (.box 91 (cu z))),(1,some (.box 59 [eI a,eI n]))],2⟩) (fun st=>z.cls.length - ax st 8) ⟨_,wC,0,Vg _,fun i _ h=>by omega,rfl⟩ ?_;rintro _ ⟨k,hk,hn,rfl⟩;by_cases hlt:k<z.cls.length
 .have hh:=eJ z.cls[k].attrs a (ho _ (Vf hlt));have hP:=NN hup a n z.cls[k];rw [hp] at hP;obtain ⟨x,hx⟩:∃ x,z.cls[k]=x:=⟨_,rfl⟩;have hyes:p x=true -> rf p z.cls=(k:Int):=fun h=>xP hlt (by rw [hx];exact h) fun i hi=>hn i (by omega) hi
  have hno:p x=false -> ∀ i (h:i<z.cls.length),i<k+1 -> p z.cls[i]=false:=fun h i hi h2=>by
   rcases Vv i k with h3|h3
   .exact hn i hi h3
   .obtain rfl:i=k:=by omega
    rw [hx];exact h
  rw [hx] at hh hP;obtain ⟨xa,xc⟩:=x;by_cases hq:0<=xc /\ xc<(c.length:Int)
  .obtain ⟨q,rfl⟩:∃ q:Nat,xc=(q:Int):=⟨xc.toNat,by omega⟩;have hql:q<c.length:=(by omega);have hcq:c.getD q 0=c[q]:=by rw [Vl,f4 hql];rfl
   repeat' first|refine gq ?_|simp only [ab,hlt,hx,hql]|decide|refine sp ?_ ?_<;>intro _|refine cA hh ?_|fail
   all_goals first
    | (rw [hyes (by rw [hP];clear hn hno hyes hP;simp_all)];done)
    | exact rI (wR [0,1]) ⟨k+1,by omega,hno (by rw [hP];clear hn hno hyes hP;simp_all),rfl⟩
    | (exfalso;simp at *;omega)
  .have hg:(decide (0<=xc) && decide (xc<(c.length:Int)))=false:=by
    rw [Wi];intro h;exact hq (by simpa using h)
   have hP2:p ⟨xa,xc⟩=(a != -1 && bp xa a):=by
    rw [hP];simp only [hg,Wf,Bool.and_false,Bool.or_false]
   clear hP
   repeat' first|refine gq ?_|simp only [ab,hlt,hx]|decide|refine sp ?_ ?_<;>intro _|refine cA hh ?_|fail
   all_goals first
    | (rw [hyes (by rw [hP2];clear hn hno hyes hP2;simp_all)];done)
    | exact rI (wR [0,1]) ⟨k+1,by omega,hno (by rw [hP2];clear hn hno hyes hP2;simp_all),rfl⟩
    | (exfalso;simp at *;omega)
 .obtain rfl:k=z.cls.length:=by omega
  repeat' first|refine gf @hlt ?_|decide|refine sp ?_ ?_<;>intro _
  rw [pC fun x hx=>by obtain ⟨i,hi,rfl⟩:=VB hx;exact hn i hi hi]
theorem JE (l:List ah) (z:Zn) (c:List Int) (hl:l.length<=1000000) (h1:z.cls.length<=1000000) (h2:c.length<=1000) (ho:∀ x ∈ z.cls,aI x.attrs):aw Tryz.prog 98 [aR l,.agg (cu z),sI c] (val (.bool (kT l z c))):=by
 refine aa ag Tryz.func98 rfl (by decide) Tryz.ntmps98 Tryz.results98 rfl (aL _) ?_;unfold kT
 repeat' first|refine go ?_|decide|refine sp ?_ ?_<;>intro _
 refine af (fun st=>∃ k:Nat,k<=l.length /\ (∀ i (h:i<l.length),i<k -> g9 z c l[i]=false) /\ st=⟨50,[(0,aR l),(2,sI c),(4,.op 0 0 0),(7,eI (k:Int))],[(0,some (.box 91 (cu z)))],1⟩) (fun st=>l.length - ax st 7) ⟨_,wC,0,Vg _,fun i _ h=>by omega,rfl⟩ ?_;rintro _ ⟨k,hk,hn,rfl⟩;by_cases hlt:k<l.length
 .obtain ⟨x,hx⟩:∃ x,l[k]=x:=⟨_,rfl⟩;have hL:=n6 z c x.la x.ln h1 h2 ho;have hR:=n6 z c x.ra x.rn h1 h2 ho
  have hyes:g9 z c x=true -> (!l.any (g9 z c))=false:=fun h=>by
   have:l.any (g9 z c)=true:=Xz.2 ⟨_,Vf hlt,by rw [hx];exact h⟩;rw [this];rfl
  have hno:g9 z c x=false -> ∀ i (h:i<l.length),i<k+1 -> g9 z c l[i]=false:=fun h i hi h2=>by
   rcases Vv i k with h3|h3
   .exact hn i hi h3
   .obtain rfl:i=k:=by omega
    rw [hx];exact h
  repeat' first|refine gq ?_|simp only [ab,hlt,hx]|decide|refine sp ?_ ?_<;>intro _|refine cA hL ?_|refine cA hR ?_|fail
  all_goals first
   | (rw [hyes (by clear hn hno hyes hL hR;simp_all [g9,gG])];done)
   | exact rI wC ⟨k+1,by omega,hno (by clear hn hno hyes hL hR;simp_all [g9,gG];try (intros;omega)),rfl⟩
   | (exfalso;simp at *;omega)
 .obtain rfl:k=l.length:=by omega
  have:l.any (g9 z c)=false:=by
   rw [List.any_eq_false];intro x hx;obtain ⟨i,hi,rfl⟩:=VB hx;rw [hn i hi hi];simp
  repeat' first|refine gf (kf @hlt (kf @this @W7)) ?_|decide|refine sp ?_ ?_<;>intro _
def eH (z:Zn) (c:List Int) (x:ah):ah:=if gG x=true then ⟨x.op,-1,eQ z c x.la x.ln,-1,eQ z c x.ra x.rn,x.n,x.u⟩ else x
theorem J3 (z:Zn) (c:List Int) (x:ah):(eH z c x).op=x.op:=by unfold eH;split<;>rfl
theorem C9 (z:Zn) (c:List Int) (vals:List Int) (o d:Int) (x:ah) (r:List Bool) (h:g9 z c x=false):dN (yb vals) o d (eH z c x) r=dN (fun x=>some (uk z c x.la x.ln x.ra x.rn)) o d x r:=by
 by_cases hc:gG x=true
 .have h3:3<=x.op /\ x.op<=8:=by simpa [gG] using hc
  have hp:¬ eQ z c x.la x.ln<0 /\ ¬ eQ z c x.ra x.rn<0:=by
   unfold g9 at h;rw [hc] at h;simpa using h
  unfold eH;rw [Vn hc];unfold dN;simp only [show ¬ (x.op=1 \/ x.op=2) by omega,if_false,h3,and_self,if_true]
  have:yb vals ⟨x.op,-1,eQ z c x.la x.ln,-1,eQ z c x.ra x.rn,x.n,x.u⟩=some (yY (eQ z c x.la x.ln) (eQ z c x.ra x.rn)):=by
   simp [yb,tb]
  rw [this];unfold uk;rw [Vh (by omega)]
 .unfold eH;rw [Vh hc];have h3:¬ (3<=x.op /\ x.op<=8):=by simpa [gG] using hc
  unfold dN;simp only [h3,if_false]
theorem uW (z:Zn) (c:List Int) (vals:List Int) (o d:Int):∀ (l:List ah) (r:List Bool),(∀ x ∈ l,g9 z c x=false) -> da (yb vals) o d (l.map (eH z c)) r=da (fun x=>some (uk z c x.la x.ln x.ra x.rn)) o d l r
 | [],r,_=>rfl
 | x :: l,r,h=>by
  rw [VY,da,da,C9 z c vals o d x r (h x (V1 ..))]
  cases dN (fun x=>some (uk z c x.la x.ln x.ra x.rn)) o d x r with
  | none=>rfl
  | some r'=>exact uW z c vals o d l r' fun y hy=>h y (VT _ hy)
theorem AH (z:Zn) (c:List Int) (s:St) (l:List ah) (h:kT l z c=true):i7 (l.map (eH z c)) s=cc l z c s:=by
 have hl:∀ x ∈ l,g9 z c x=false:=by
  unfold kT at h;simpa using h
 have ho:(l.map (eH z c)).map ah.op=l.map ah.op:=by
  rw [XC];exact List.map_congr_left fun x _=>J3 z c x
 unfold cc;rw [Vn h];unfold i7 gj;rw [ho,uW z c s.vals s.opn s.don l [] hl]
theorem Fc (l:List ah) (z:Zn) (c:List Int) (s:St) (hl:l.length<=900) (h1:z.cls.length<=1000000) (h2:c.length<=1000) (ho:∀ x ∈ z.cls,aI x.attrs) (hop:aI s.opn) (hdo:aI s.don):aw Tryz.prog 49 [aR l,.agg (cu z),sI c,.agg (gE s)] ⟨.tup [eB (jf (cc l z c s)),eI (rg (cc l z c s))],[],0⟩:=by
 have hok:(⟨.tup [eB (jf (cc l z c s)),eI (rg (cc l z c s))],[],0⟩:cM).Ok:=⟨fun id o h=>(by cases h),by simp [AV.lt,AV.ltL]⟩;refine aa ag Tryz.func49 rfl (by decide) Tryz.ntmps49 Tryz.results49 rfl (hok) ?_;have hK:=JE l z c (by omega) h1 h2 ho
 cases hk:kT l z c with
 | false=>
  rw [hk] at hK;have hz:cc l z c s=none:=by unfold cc;rw [Vh (by simp [hk])]
  rw [hz]
  repeat' first|refine gq ?_|decide|refine sp ?_ ?_<;>intro _|refine cA hK ?_|fail
  all_goals exact aX (by first|rfl|simp [AV.ren,AV.renL,jf,rg])
 | true=>
  rw [hk] at hK
  repeat' first|refine gq ?_|decide|refine sp ?_ ?_<;>intro _|refine cA hK ?_|fail
  refine af (fun st=>∃ k:Nat,k<=l.length /\ st=⟨59,[(0,aR l),(2,sI c),(5,.op 0 0 0),(7,.op 1 0 0),(10,.osl 2),(11,eI (k:Int))],[(0,some (.box 91 (cu z))),(1,some (.box 132 (gE s))),(2,some (.row 61 7 ((l.take k).map fun x=>bX (eH z c x))))],3⟩) (fun st=>l.length - ax st 11) ⟨_,((bA 10 61 7 (by simp only [jn,aj.get,bh,aj.put,↓reduceIte,reduceCtorEq,Nat.reduceLT,Nat.reduceEqDiff,Nat.reduceAdd,Nat.reduceLeDiff,eq_self,implies_true,VA,VP])).trans (wS [0,1,2] @VA)),0,Vg _,rfl⟩ ?_;rintro _ ⟨k,hk2,rfl⟩;by_cases hlt:k<l.length
  .obtain ⟨x,hx⟩:∃ x,l[k]=x:=⟨_,rfl⟩;have hL:=n6 z c x.la x.ln h1 h2 ho;have hR:=n6 z c x.ra x.rn h1 h2 ho;have hsn:(l.take (k+1)).map (fun x=>bX (eH z c x))=(l.take k).map (fun x=>bX (eH z c x)) ++ [bX (eH z c x)]:=(by rw [dT _ l hlt,hx]);have htl:(l.take k).length<=900:=by rw [Vr];omega
   cases hc:gG x with
   | true=>
    have hs:eH z c x=⟨x.op,-1,eQ z c x.la x.ln,-1,eQ z c x.ra x.rn,x.n,x.u⟩:=by unfold eH;rw [Vn hc]
    rw [hs] at hsn;have h3:decide (3<=x.op)=true /\ decide (x.op<=8)=true:=(by simpa [gG] using hc)
    repeat' first|refine gq ?_|simp only [ab,hlt,hx,h3.1,h3.2]|decide|refine sp ?_ ?_<;>intro _|refine cA hL ?_|refine cA hR ?_|(with_reducible apply And.intro)
    all_goals first
     | rfl
     | omega
     | exact rI (wS [0,1,5] @hsn) ⟨k+1,by omega,rfl⟩
   | false=>
    have hs:eH z c x=x:=by unfold eH;rw [Vh (by simp [hc])]
    rw [hs] at hsn
    repeat' first|refine gq ?_|simp only [ab,hlt,hx]|decide|refine sp ?_ ?_<;>intro _|refine cA hL ?_|refine cA hR ?_|(with_reducible apply And.intro)
    all_goals first
     | rfl
     | omega
     | (exfalso;simp_all [gG];done)
     | (exfalso;simp_all [gG];omega)
     | exact rI (wS [0,1,5] @hsn) ⟨k+1,by omega,rfl⟩
  .obtain rfl:k=l.length:=by omega
   have hH:=pT (l.map (eH z c)) s (by simp;omega) hop hdo;rw [AH z c s l hk] at hH;have em:(l.map (eH z c)).map bX=l.map fun x=>bX (eH z c x):=by rw [XC];rfl
   simp only [aR,em] at hH
   repeat' first|refine ge (kf @hlt @Vq) ?_|decide|refine sp ?_ ?_<;>intro _
   refine cZ (r:=.tup [eB (jf (cc l z c s)),eI (rg (cc l z c s))]) ?_ (.inr (by simp [AV.plain,AV.plainL])) ?_
   .repeat' first|decide|refine go ?_
    exact hH
   .repeat' first|refine gq ?_|decide|refine sp ?_ ?_<;>intro _
    all_goals exact aX (by first|rfl|simp [AV.ren,AV.renL])
end
section
def iV (vals c:List Int):List Int:=bV (vals ++ c)
def fc (vals:List Int) (n:Int):Nat -> Int
 | 0=>0
 | k+1=>if vals.getD k 0=n then dK (fc vals n k) (k:Int) else fc vals n k
def gv (c:List Int) (n:Int):Nat -> Int
 | 0=>-1
 | k+1=>if c.getD k 0=n then (k:Int) else gv c n k
def DH (vals c:List Int) (n:Int):fQ:=⟨fc vals n vals.length,gv (bV c) n (bV c).length⟩
def Fo (vals c:List Int):List fQ:=(iV vals c).map (DH vals c)
end
section
def cR (r:Int):Int:=2 ^ (min r.toNat 20) - 1
theorem uA (r:Int):aw Tryz.prog 144 [eI r] (val (.int .i64 (cR r))):=by
 refine aa ag Tryz.func144 rfl (by decide) Tryz.ntmps144 Tryz.results144 rfl (aL _) ?_
 repeat' first|refine go ?_|decide|refine sp ?_ ?_<;>intro _
 refine af (fun st=>∃ k:Nat,k<=20 /\ (k=0 \/ (k:Int)<=r) /\ st=⟨18,[(0,eI r),(3,eI (2 ^ k - 1)),(4,eI (k:Int))],[],0⟩) (fun st=>20 - ax st 4) ⟨_,wC,0,Vg _,.inl rfl,rfl⟩ ?_;rintro _ ⟨k,hk,hr,rfl⟩
 have hp:(2:Int) ^ k<=1048576:=by
  have h1:(2:Nat) ^ k<=2 ^ 20:=VU (by omega) hk;have h2:((2 ^ k:Nat):Int)=(2:Int) ^ k:=by simp
  omega
 have hp0:(0:Int)<2 ^ k:=Int.pow_pos (by omega);have hps:(2:Int) ^ (k+1)=2 * 2 ^ k:=by rw [Int.pow_succ,Int.mul_comm]
 have ew1:IntKind.i64.wrap (2 * (2 ^ k - 1))=2 * (2 ^ k - 1):=aD (by omega) (by omega);have ew2:IntKind.i64.wrap (2 * (2 ^ k - 1)+1)=2 ^ (k+1) - 1:=by rw [aD (by omega) (by omega)];omega
 by_cases h1:(k:Int)<r
 .by_cases h2:k<20
  .have d1:decide ((k:Int)<r)=true:=(by simpa using h1);have d2:decide ((k:Int)<20)=true:=by simp only [VG];omega
   repeat' first|refine gf (kf d1 (kf d2 (kf ew1 ew2))) ?_|decide|refine sp ?_ ?_<;>intro _
   exact rI wC ⟨k+1,by omega,by omega,rfl⟩
  .have d1:decide ((k:Int)<r)=true:=(by simpa using h1);have d2:decide ((k:Int)<20)=false:=by simp only [Vx];omega
   repeat' first|refine gf (kf d1 d2) ?_|decide|refine sp ?_ ?_<;>intro _
   unfold cR;rw [show min r.toNat 20=k by omega]
 .have d1:decide ((k:Int)<r)=false:=by simpa using h1
  repeat' first|refine gf d1 ?_|decide|refine sp ?_ ?_<;>intro _
  unfold cR;rw [show min r.toNat 20=k by omega]
def oQ (a b m:Int):Int:=max 0 (min (b - a - 1) m)
theorem O5 (a b m:Int) (ha:aI a) (hb:aI b) (hm:m<=4294967296):aw Tryz.prog 143 [eI a,eI b,eI m] (val (.int .i64 (oQ a b m))):=by
 refine aa ag Tryz.func143 rfl (by decide) Tryz.ntmps143 Tryz.results143 rfl (aL _) ?_
 repeat' first|refine go ?_|decide|refine sp ?_ ?_<;>intro _
 unfold aI at ha hb;refine af (fun st=>∃ (k:Nat) (a':Int),(k:Int)<=oQ a b m /\ a'=a+k /\ st=⟨27,[(0,eI a'),(1,eI b),(2,eI m),(7,eI (k:Int))],[],0⟩) (fun st=>m.toNat - ax st 7) ⟨_,wC,0,a,by unfold oQ;omega,by omega,rfl⟩ ?_;rintro _ ⟨k,a',hk,ha',rfl⟩;by_cases h:(k:Int)<m /\ a'<b /\ a'+1<b
 .have d1:decide ((k:Int)<m)=true:=by simpa using h.1
  have d2:decide (a'<b)=true:=by simpa using h.2.1
  have d3:decide (a'+1<b)=true:=by simpa using h.2.2
  have ew:IntKind.i64.wrap (a'+1)=a'+1:=aD (by omega) (by omega)
  repeat' first|refine gf (kf d1 (kf d2 (kf ew d3))) ?_|decide|refine sp ?_ ?_<;>intro _
  exact rI wC ⟨k+1,a'+1,by unfold oQ at *;omega,by omega,rfl⟩
 .have hg:(k:Int)=oQ a b m:=by unfold oQ at *;omega
  by_cases h1:(k:Int)<m
  .have d1:decide ((k:Int)<m)=true:=(by simpa using h1);by_cases h2:a'<b
   .have d2:decide (a'<b)=true:=(by simpa using h2);have d3:decide (a'+1<b)=false:=by simp only [Vx];omega
    have ew:IntKind.i64.wrap (a'+1)=a'+1:=aD (by omega) (by omega)
    repeat' first|refine gf (kf d1 (kf d2 (kf ew d3))) ?_|decide|refine sp ?_ ?_<;>intro _
    exact hg
   .have d2:decide (a'<b)=false:=by simpa using h2
    repeat' first|refine gf (kf d1 d2) ?_|decide|refine sp ?_ ?_<;>intro _
    exact hg
  .have d1:decide ((k:Int)<m)=false:=by simpa using h1
   repeat' first|refine gf d1 ?_|decide|refine sp ?_ ?_<;>intro _
   exact hg
theorem yH (vals c:List Int) (h1:vals.length<=400) (h2:c.length<=400):aw Tryz.prog 142 [sI vals,sI c] ⟨sI (iV vals c),[],0⟩:=by
 have hok:(⟨sI (iV vals c),[],0⟩:cM).Ok:=⟨fun id o h=>(by cases h),by simp [AV.lt]⟩;refine aa ag Tryz.func142 rfl (by decide) Tryz.ntmps142 Tryz.results142 rfl (hok) ?_;have hS:=fY (vals ++ c) (by simp;omega);have em:(vals.map fun n=>[eI n]) ++ (c.map fun n=>[eI n])=(vals ++ c).map fun n=>[eI n]:=by rw [VE]
 repeat' first|refine gf em ?_|decide|refine sp ?_ ?_<;>intro _|(with_reducible apply And.intro)
 all_goals first
  | rfl
  | omega
  | skip
 refine u2 [2] (R:=⟨sI (bV (vals ++ c)),[],0⟩) ?_ ?_ ?_
 .repeat' first|decide|refine go ?_
  exact hS
 .repeat' first|decide|refine go ?_
  left;simp [dJ,eU,aM,aU]
 .repeat' first|refine gq ?_|decide|refine sp ?_ ?_<;>intro _
  all_goals exact aX (by first|rfl|simp [AV.ren,AV.renL])
def ky (x:ah):List Int:=if gG x=true then (if x.la = -1 then [x.ln] else []) ++ (if x.ra = -1 then [x.rn] else []) else []
def cC (l:List ah):List Int:=l.flatMap ky
theorem Cp (x:ah):(ky x).length<=2:=by
 unfold ky;split
 .split<;>split<;>simp
 .simp
theorem kX:∀ l:List ah,(cC l).length<=2 * l.length
 | []=>by simp [cC]
 | x :: l=>by
  have h1:=Cp x;have h2:=kX l;unfold cC at *;simp only [Ww,Vi,VI];omega
theorem lQ (l:List ah) (hl:l.length<=1100000):aw Tryz.prog 15 [aR l] ⟨sI (bV (cC l)),[],0⟩:=by
 have hok:(⟨sI (bV (cC l)),[],0⟩:cM).Ok:=⟨fun id o h=>(by cases h),by simp [AV.lt]⟩;refine aa ag Tryz.func15 rfl (by decide) Tryz.ntmps15 Tryz.results15 rfl (hok) ?_;have hlen:=kX l;have hS:=fY (cC l) (by omega)
 repeat' first|refine go ?_|decide|refine sp ?_ ?_<;>intro _
 refine af (fun st=>∃ k:Nat,k<=l.length /\ st=⟨59,[(0,aR l),(3,.osl 0),(4,eI (k:Int))],[(0,some (.row 2 1 ((cC (l.take k)).map fun n=>[eI n])))],1⟩) (fun st=>l.length - ax st 4) ⟨_,((bA 3 2 1 (by simp only [jn,aj.get,bh,aj.put,↓reduceIte,reduceCtorEq,Nat.reduceLT,Nat.reduceEqDiff,Nat.reduceAdd,Nat.reduceLeDiff,eq_self,implies_true,VA,cC,Wl,VP])).trans (wS [0] (kf @VA (kf @cC.eq_1 @Wl)))),0,Vg _,rfl⟩ ?_;rintro _ ⟨k,hk,rfl⟩;by_cases hlt:k<l.length
 .obtain ⟨x,hx⟩:∃ x,l[k]=x:=⟨_,rfl⟩
  have hsn:cC (l.take (k+1))=cC (l.take k) ++ ky x:=by
   unfold cC;rw [Xo,f4 hlt,hx];simp
  have htl:(cC (l.take k)).length<=2200000:=by
   have:=kX (l.take k);rw [Vr] at this;omega
  obtain ⟨op,la,ln,ra,rn,xn,xu⟩:=x;by_cases hc:3<=op /\ op<=8
  .have hcm:gG ⟨op,la,ln,ra,rn,xn,xu⟩=true:=(by simp [gG,hc]);have d1:decide (op<3)=false:=by simp only [Vx];omega
   have d2:decide (8<op)=false:=by simp only [Vx];omega
   have hna:ky ⟨op,la,ln,ra,rn,xn,xu⟩=(if la = -1 then [ln] else []) ++ (if ra = -1 then [rn] else []):=by unfold ky;rw [Vn hcm]
   rw [hna] at hsn;by_cases ha:la = -1
   .have ha1:(la == -1)=true:=(by simpa using ha);by_cases hb:ra = -1
    .have hb1:(ra == -1)=true:=(by simpa using hb);rw [Vn ha,Vn hb] at hsn;have hs2:(cC (l.take (k+1))).map (fun n=>[eI n])=((cC (l.take k)).map (fun n=>[eI n]) ++ [[eI ln]]) ++ [[eI rn]]:=by rw [hsn];simp
     repeat' first|refine gq ?_|simp only [ab,hlt,hx,d1,d2,ha1,hb1]|decide|refine sp ?_ ?_<;>intro _|(with_reducible apply And.intro)
     all_goals first
      | rfl
      | omega
      | (simp;omega)
      | exact rI (wS [4] hs2) ⟨k+1,by omega,rfl⟩
    .have hb1:(ra == -1)=false:=(by simpa using hb);rw [Vn ha,Vh hb] at hsn;have hs2:(cC (l.take (k+1))).map (fun n=>[eI n])=(cC (l.take k)).map (fun n=>[eI n]) ++ [[eI ln]]:=by rw [hsn];simp
     repeat' first|refine gq ?_|simp only [ab,hlt,hx,d1,d2,ha1,hb1]|decide|refine sp ?_ ?_<;>intro _|(with_reducible apply And.intro)
     all_goals first
      | rfl
      | omega
      | (simp;omega)
      | exact rI (wS [2] hs2) ⟨k+1,by omega,rfl⟩
   .have ha1:(la == -1)=false:=(by simpa using ha);by_cases hb:ra = -1
    .have hb1:(ra == -1)=true:=(by simpa using hb);rw [Vh ha,Vn hb] at hsn;have hs2:(cC (l.take (k+1))).map (fun n=>[eI n])=(cC (l.take k)).map (fun n=>[eI n]) ++ [[eI rn]]:=by rw [hsn];simp
     repeat' first|refine gq ?_|simp only [ab,hlt,hx,d1,d2,ha1,hb1]|decide|refine sp ?_ ?_<;>intro _|(with_reducible apply And.intro)
     all_goals first
      | rfl
      | omega
      | (simp;omega)
      | exact rI (wS [2] hs2) ⟨k+1,by omega,rfl⟩
    .have hb1:(ra == -1)=false:=(by simpa using hb);rw [Vh ha,Vh hb] at hsn;have hs2:(cC (l.take (k+1))).map (fun n=>[eI n])=(cC (l.take k)).map (fun n=>[eI n]):=by rw [hsn];simp
     repeat' first|refine gq ?_|simp only [ab,hlt,hx,d1,d2,ha1,hb1]|decide|refine sp ?_ ?_<;>intro _
     exact rI (wE hs2) ⟨k+1,by omega,rfl⟩
  .have hcm:gG ⟨op,la,ln,ra,rn,xn,xu⟩=false:=by
    rw [Wi];intro h;exact hc (by simpa [gG] using h)
   have hna:ky ⟨op,la,ln,ra,rn,xn,xu⟩=[]:=by unfold ky;rw [Vh (by simp [hcm])]
   rw [hna,Wn] at hsn;have hs2:(cC (l.take (k+1))).map (fun n=>[eI n])=(cC (l.take k)).map (fun n=>[eI n]):=(by rw [hsn])
   repeat' first|refine gq ?_|simp only [ab,hlt,hx]|decide|refine sp ?_ ?_<;>intro _
   all_goals first
    | exact rI (wE hs2) ⟨k+1,by omega,rfl⟩
    | (exfalso;simp at *;omega)
 .obtain rfl:k=l.length:=by omega
  repeat' first|refine ge (kf @hlt @Vq) ?_|decide|refine sp ?_ ?_<;>intro _
  refine u2 [0] (R:=⟨sI (bV (cC l)),[],0⟩) ?_ ?_ ?_
  .repeat' first|decide|refine go ?_
   exact hS
  .repeat' first|decide|refine go ?_
   left;simp [dJ,eU,aM,aU]
  .repeat' first|refine gq ?_|decide|refine sp ?_ ?_<;>intro _
   all_goals exact aX (by first|rfl|simp [AV.ren,AV.renL])
end
section
theorem cJ:dL Tryz.prog 3 (eh .i64):=uI Tryz.underlying3
theorem zm:dL Tryz.prog 2 (eh .i64):=uI Tryz.underlying2
def Rw:fS (Int × Int × Unit):=cq (eh .i64) (cq (eh .i64) tj)
theorem zf:dL Tryz.prog 59 Rw:=
 cG Tryz.underlying59 (by kernel_rfl) (aH (by kernel_rfl) (by kernel_rfl) cJ (aH (by kernel_rfl) (by kernel_rfl) zm (dH _ _)))
def TU:fS (Int × (Int × Int × Unit) × (Int × Int × Unit) × Int × Int × Unit):=cq (eh .i64) (cq Rw (cq Rw (cq (eh .i64) (cq (eh .i64) tj))))
theorem CB:dL Tryz.prog 61 TU:=
 cG Tryz.underlying61 (by kernel_rfl) (aH (by kernel_rfl) (by kernel_rfl) cJ (aH (by kernel_rfl) (by kernel_rfl) zf (aH (by kernel_rfl) (by kernel_rfl) zf (aH (by kernel_rfl) (by kernel_rfl) cJ (aH (by kernel_rfl) (by kernel_rfl) cJ (dH _ _))))))
theorem ES:dL Tryz.prog 61 fC:=gL CB (fun p=>⟨p.1,p.2.1.1,p.2.1.2.1,p.2.2.1.1,p.2.2.1.2.1,p.2.2.2.1,p.2.2.2.2.1⟩) (by
 rintro w S cs ⟨op,⟨la,ln,_⟩,⟨ra,rn,_⟩,n,u,_⟩ h;obtain ⟨c0,q0,e0,⟨a0,h0⟩,h'⟩:=bb h;obtain ⟨c1,q1,e1,h1,h''⟩:=bb h';obtain ⟨c2,q2,e2,h2,h3⟩:=bb h'';obtain ⟨c3,q3,e3,⟨a3,h3'⟩,h4⟩:=bb h3;obtain ⟨c4,q4,e4,⟨a4,h4'⟩,h5⟩:=bb h4;have h5:q4=[]:=h5;obtain ⟨d0,k0,f0,⟨b0,g0⟩,m0⟩:=bb h1;obtain ⟨d1,k1,f1,⟨b1,g1⟩,m1⟩:=bb m0;have m1:k1=[]:=m1;obtain ⟨d2,k2,f2,⟨b2,g2⟩,m2⟩:=bb h2;obtain ⟨d3,k3,f3,⟨b3,g3⟩,m3⟩:=bb m2;have m3:k3=[]:=m3;refine ⟨?_,dY h0,dY g0,dY g1,dY g2,dY g3,dY h3',dY h4'⟩;rw [e0,e1,e2,e3,e4,h5,a0,f0,f1,m1,b0,b1,f2,f3,m3,b2,b3,a3,a4];rfl)
theorem nL:dL Tryz.prog 33 (aF fC):=cr Tryz.underlying33 (by kernel_rfl) (by decide) ES
theorem Bh:dL Tryz.prog 87 (aF (eh .i64)):=cr Tryz.underlying87 (by kernel_rfl) (by decide) cJ
end
section
theorem km:dL Tryz.prog 9 qY:=xJ Tryz.underlying9
theorem tt:dL Tryz.prog 4 qq:=Cw Tryz.underlying4
theorem oH {t:TypeId} (h:dL Tryz.prog t (cq qY (cq (eh .i64) tj))):dL Tryz.prog t fN:=gL h (fun p=>(p.1,p.2.1)) (by
 rintro w S cs ⟨s,n,_⟩ h;obtain ⟨c0,q0,e0,⟨a0,h0⟩,h⟩:=bb h;obtain ⟨c1,q1,e1,⟨a1,h1⟩,h⟩:=bb h;have h:q1=[]:=h;exact ⟨by rw [e0,e1,a0,a1,h];rfl,h0,dY h1⟩)
theorem Bg:dL Tryz.prog 141 fN:=oH (cG Tryz.underlying141 (by kernel_rfl) (aH (by kernel_rfl) (by kernel_rfl) km (aH (by kernel_rfl) (by kernel_rfl) cJ (dH _ _))))
theorem EB:dL Tryz.prog 139 fN:=oH (cG Tryz.underlying139 (by kernel_rfl) (aH (by kernel_rfl) (by kernel_rfl) km (aH (by kernel_rfl) (by kernel_rfl) cJ (dH _ _))))
theorem LJ:dL Tryz.prog 146 om:=gL (r:=cq (eh .i64) (cq (eh .i64) tj)) (cG Tryz.underlying146 (by kernel_rfl) (aH (by kernel_rfl) (by kernel_rfl) cJ (aH (by kernel_rfl) (by kernel_rfl) cJ (dH _ _)))) (fun p=>(p.1,p.2.1)) (by
 rintro w S cs ⟨s,n,_⟩ h;obtain ⟨c0,q0,e0,⟨a0,h0⟩,h⟩:=bb h;obtain ⟨c1,q1,e1,⟨a1,h1⟩,h⟩:=bb h;have h:q1=[]:=h;exact ⟨by rw [e0,e1,a0,a1,h];rfl,dY h0,dY h1⟩)
theorem AU:dL Tryz.prog 151 oC:=gL (r:=cq qq (cq (eh .i64) tj)) (cG Tryz.underlying151 (by kernel_rfl) (aH (by kernel_rfl) (by kernel_rfl) tt (aH (by kernel_rfl) (by kernel_rfl) cJ (dH _ _)))) (fun p=>(p.1,p.2.1)) (by
 rintro w S cs ⟨s,n,_⟩ h;obtain ⟨c0,q0,e0,a0,h⟩:=bb h;have a0:c0=[.bool s]:=a0;obtain ⟨c1,q1,e1,⟨a1,h1⟩,h⟩:=bb h;have h:q1=[]:=h;exact ⟨by rw [e0,e1,a0,a1,h];rfl,dY h1⟩)
theorem C6:dL Tryz.prog 67 Ts:=gL (r:=cq (eh .i64) (cq (eh .i64) (cq (aF fC) tj))) (cG Tryz.underlying67 (by kernel_rfl) (aH (by kernel_rfl) (by kernel_rfl) cJ (aH (by kernel_rfl) (by kernel_rfl) cJ (aH (by kernel_rfl) (by kernel_rfl) nL (dH _ _))))) (fun p=>⟨p.1,p.2.1,p.2.2.1⟩) (by
 rintro w S cs ⟨s,n,l,_⟩ h;obtain ⟨c0,q0,e0,⟨a0,h0⟩,h⟩:=bb h;obtain ⟨c1,q1,e1,⟨a1,h1⟩,h⟩:=bb h;obtain ⟨c2,q2,e2,h2,h⟩:=bb h;have h:q2=[]:=h;obtain ⟨cv,rfl,h2⟩:=fx (r:=aF fC) rfl h2;exact ⟨cv,by rw [e0,e1,e2,a0,a1,h];rfl,h2,dY h0,dY h1⟩)
theorem F1:dL Tryz.prog 69 Tk:=gL (r:=cq qY (cq (eh .i64) (cq (eh .i64) (cq (aF fC) (cq qq tj))))) (cG Tryz.underlying69 (by kernel_rfl) (aH (by kernel_rfl) (by kernel_rfl) km (aH (by kernel_rfl) (by kernel_rfl) cJ (aH (by kernel_rfl) (by kernel_rfl) cJ (aH (by kernel_rfl) (by kernel_rfl) nL (aH (by kernel_rfl) (by kernel_rfl) tt (dH _ _))))))) (fun p=>⟨p.1,p.2.1,p.2.2.1,p.2.2.2.1,p.2.2.2.2.1⟩) (by
 rintro w S cs ⟨nm,s,n,l,b,_⟩ h;obtain ⟨c9,q9,e9,⟨a9,h9⟩,h⟩:=bb h;obtain ⟨c0,q0,e0,⟨a0,h0⟩,h⟩:=bb h;obtain ⟨c1,q1,e1,⟨a1,h1⟩,h⟩:=bb h;obtain ⟨c2,q2,e2,h2,h⟩:=bb h;obtain ⟨c3,q3,e3,a3,h⟩:=bb h;have a3:c3=[.bool b]:=a3;have h:q3=[]:=h;obtain ⟨cv,rfl,h2⟩:=fx (r:=aF fC) rfl h2;exact ⟨cv,by rw [e9,e0,e1,e2,e3,a9,a0,a1,a3,h];rfl,h2,dY h0,dY h1,h9⟩)
theorem Df:dL Tryz.prog 103 UF:=gL (r:=cq qY (cq (eh .i64) (cq (eh .i64) (cq (aF (eh .i64)) (cq (eh .i64) tj))))) (cG Tryz.underlying103 (by kernel_rfl) (aH (by kernel_rfl) (by kernel_rfl) km (aH (by kernel_rfl) (by kernel_rfl) cJ (aH (by kernel_rfl) (by kernel_rfl) cJ (aH (by kernel_rfl) (by kernel_rfl) Bh (aH (by kernel_rfl) (by kernel_rfl) cJ (dH _ _))))))) (fun p=>⟨p.1,p.2.1,p.2.2.1,p.2.2.2.1,p.2.2.2.2.1⟩) (by
 rintro w S cs ⟨nm,s,n,l,b,_⟩ h;obtain ⟨c9,q9,e9,⟨a9,h9⟩,h⟩:=bb h;obtain ⟨c0,q0,e0,⟨a0,h0⟩,h⟩:=bb h;obtain ⟨c1,q1,e1,⟨a1,h1⟩,h⟩:=bb h;obtain ⟨c2,q2,e2,h2,h⟩:=bb h;obtain ⟨c3,q3,e3,⟨a3,h3⟩,h⟩:=bb h;have h:q3=[]:=h;obtain ⟨cv,rfl,h2⟩:=fx (r:=aF (eh .i64)) rfl h2;exact ⟨cv,by rw [e9,e0,e1,e2,e3,a9,a0,a1,a3,h];rfl,h2,dY h0,dY h1,dY h3,h9⟩)
abbrev U3:=cq (aF qY) (cq (aF (eh .i64)) (cq (aF qY) (cq (aF fN) (cq (aF fN) (cq (aF UF) (cq (aF Ts) (cq (aF Tk) (cq (aF om) (cq (aF oC) tj)))))))))
theorem Ew:dL Tryz.prog 32 U3:=cG Tryz.underlying32 (by kernel_rfl) (aH (by kernel_rfl) (by kernel_rfl) (cr Tryz.underlying22 (by kernel_rfl) (by decide) km) (aH (by kernel_rfl) (by kernel_rfl) (cr Tryz.underlying23 (by kernel_rfl) (by decide) zm) (aH (by kernel_rfl) (by kernel_rfl) (cr Tryz.underlying22 (by kernel_rfl) (by decide) km) (aH (by kernel_rfl) (by kernel_rfl) (cr Tryz.underlying24 (by kernel_rfl) (by decide) EB) (aH (by kernel_rfl) (by kernel_rfl) (cr Tryz.underlying25 (by kernel_rfl) (by decide) Bg) (aH (by kernel_rfl) (by kernel_rfl) (cr Tryz.underlying26 (by kernel_rfl) (by decide) Df) (aH (by kernel_rfl) (by kernel_rfl) (cr Tryz.underlying27 (by kernel_rfl) (by decide) C6) (aH (by kernel_rfl) (by kernel_rfl) (cr Tryz.underlying28 (by kernel_rfl) (by decide) F1) (aH (by kernel_rfl) (by kernel_rfl) (cr Tryz.underlying29 (by kernel_rfl) (by decide) LJ) (aH (by kernel_rfl) (by kernel_rfl) (cr Tryz.underlying30 (by kernel_rfl) (by decide) AU) (dH _ _)))))))))))
theorem Le {H:Type} {enc:TypeId × Value -> H} {w:World} {fuel:Nat} {cs:Array Value} {x:DataW H × List MemPlace} (h:DataW.trod enc Tryz.prog w 0 (fun _=>true) true fuel 32 cs.toList=some x) :
  ∃ (V:MV) (m:bk),cs=V.cells /\ yK w V m:=by
 obtain ⟨⟨attrs,inits,users,roles,stages,events,guards,miles,sods,order,_⟩,h⟩:=Ew H enc w fuel _ _ h;obtain ⟨c0,q0,e0,h0,h⟩:=bb h;obtain ⟨c1,q1,e1,h1,h⟩:=bb h;obtain ⟨c2,q2,e2,h2,h⟩:=bb h;obtain ⟨c3,q3,e3,h3,h⟩:=bb h;obtain ⟨c4,q4,e4,h4,h⟩:=bb h;obtain ⟨c5,q5,e5,h5,h⟩:=bb h;obtain ⟨c6,q6,e6,h6,h⟩:=bb h;obtain ⟨c7,q7,e7,h7,h⟩:=bb h;obtain ⟨c8,q8,e8,h8,h⟩:=bb h;obtain ⟨c9,q9,e9,h9,h⟩:=bb h;obtain rfl:q9=[]:=h;obtain ⟨v0,rfl,h0⟩:=fx (r:=aF qY) rfl h0;obtain ⟨v1,rfl,h1⟩:=fx (r:=aF (eh .i64)) rfl h1;obtain ⟨v2,rfl,h2⟩:=fx (r:=aF qY) rfl h2;obtain ⟨v3,rfl,h3⟩:=fx (r:=aF fN) rfl h3;obtain ⟨v4,rfl,h4⟩:=fx (r:=aF fN) rfl h4;obtain ⟨v5,rfl,h5⟩:=fx (r:=aF UF) rfl h5;obtain ⟨v6,rfl,h6⟩:=fx (r:=aF Ts) rfl h6;obtain ⟨v7,rfl,h7⟩:=fx (r:=aF Tk) rfl h7;obtain ⟨v8,rfl,h8⟩:=fx (r:=aF om) rfl h8;obtain ⟨v9,rfl,h9⟩:=fx (r:=aF oC) rfl h9;refine ⟨⟨v0,v1,v2,v3,v4,v5,v6,v7,v8,v9⟩,⟨attrs,inits,users,roles,stages,events,guards,miles,sods,order⟩,?_,⟨h0,h1,h2,h3,h4,h5,h6,h7,h8,h9⟩⟩;apply Array.ext';rw [e0,e1,e2,e3,e4,e5,e6,e7,e8,e9];rfl
end
section
def qd {α:Type} (r:fS α) (f:α -> List AV):Prop:=∀ (w:World) (S:Nat -> Prop) (cs:List Value) (x:α),r.at_ w S cs x -> (f x).length=r.size /\ ∀ (j:Nat) (u:Value) (av:AV),cs[j]? = some u -> (f x)[j]? = some av -> RT w S u av /\ u.oneCell'=true
theorem qd.slice {α:Type} {r:fS α} {f:α -> List AV} (h:qd r f) {w:World} {S:Nat -> Prop} {v:Value} {l:List α} (hv:(aF r).one w S v l):RT w S v (.sl r.size (l.map f)):=by
 obtain ⟨A,c,rfl,h1,h2⟩:=cB hv;by_cases h0:0<l.length
 .obtain ⟨b,o,rfl,hb,hrow⟩:=db hv h0
  classical
  let cs:Nat -> List Value:=fun i=>if hi:i<l.length then (hrow i hi).choose else []
  have hcs:∀ i (hi:i<l.length),(∀ (j:Nat) (u:Value),(cs i)[j]? = some u -> w.cell? ⟨b,o+i * r.size+j,none⟩=some u) /\ r.at_ w S (cs i) l[i]:=fun i hi=>by
   have:=(hrow i hi).choose_spec;simpa [cs,hi] using this
  have key:∀ (i j:Nat) (row:List AV) (av:AV),(l.map f)[i]? = some row -> row[j]? = some av -> ∃ hi:i<l.length,(cs i)[j]? = some ((cs i).getD j undef) /\ RT w S ((cs i).getD j undef) av /\ ((cs i).getD j undef).oneCell'=true:=fun i j row av h3 h4=>by
   have hi:i<l.length:=by
    have:=(Vd.1 h3).1;simpa using this
   have hf:row=f l[i]:=by
    rw [Ve,f4 hi] at h3;exact (WE h3).symm
   subst hf;obtain ⟨h5,h6⟩:=h w S (cs i) l[i] (hcs i hi).2
   have hj:j<(cs i).length:=by
    rw [r.len (hcs i hi).2,<- h5];exact (Vd.1 h4).1
   have e:(cs i)[j]? = some ((cs i).getD j undef):=by
    rw [Vl,f4 hj];rfl
   exact ⟨hi,e,h6 j _ av e h4⟩
  refine .sl _ _ c r.size _ b o (fun i j=>(cs i).getD j undef) (by simp) h1 h2 (fun _=>⟨rfl,hb⟩) (fun row hr=>?_) (fun _ i j row av h3 h4=>?_) (fun i j row av h3 h4=>(key i j row av h3 h4).elim fun _ h=>h.2.2) (fun i j row av h3 h4=>(key i j row av h3 h4).elim fun _ h=>h.2.1)
  .obtain ⟨i,hi,rfl⟩:=VB hr;have hi:i<l.length:=(by simpa using hi);simp only [List.getElem_map];exact (h w S (cs i) l[i] (hcs i hi).2).1
  .obtain ⟨hi,h5,_⟩:=key i j row av h3 h4;exact (hcs i hi).1 j _ h5
 .have:l=[]:=WL.1 (by omega);subst this;exact .sl A 0 c r.size [] 0 0 (fun _ _=>undef) rfl h1 h2 (fun h=>by omega) (by simp) (fun h=>by omega) (by simp) (by simp)
theorem gT {α:Type} {r:fS α} {f:α -> List AV} (g:α -> List Value) (hg:∀ w S cs x,r.at_ w S cs x -> cs=g x) (hs:∀ x,(g x).length=r.size) (ho:∀ x u,u ∈ g x -> u.oneCell'=true) (hf:∀ x,f x=(g x).map .c):qd r f:=fun w S cs x h=>by
 obtain rfl:=hg w S cs x h;rw [hf];refine ⟨by simp [hs],fun j u av h1 h2=>?_⟩;rw [Ve,h1] at h2;cases h2;exact ⟨.c u,ho x u (p0 h1)⟩
theorem zB:qd qY (fun s=>[eS s]):=gT (fun s=>[.string s]) (fun w S cs x h=>h.1) (fun x=>rfl) (fun x u h=>by simp at h;subst h;rfl) (fun x=>rfl)
theorem tK:qd (eh .i64) (fun n=>[eI n]):=gT (fun n=>[.int .i64 n]) (fun w S cs x h=>h.1) (fun x=>rfl) (fun x u h=>by simp at h;subst h;rfl) (fun x=>rfl)
theorem DK:qd fN Tw:=gT (fun p=>[.string p.1,.int .i64 p.2]) (fun w S cs x h=>h.1) (fun x=>rfl) (fun x u h=>by simp at h;rcases h with rfl | rfl<;>rfl) (fun x=>rfl)
theorem Nh:qd om Tu:=gT (fun p=>[.int .i64 p.1,.int .i64 p.2]) (fun w S cs x h=>h.1) (fun x=>rfl) (fun x u h=>by simp at h;rcases h with rfl | rfl<;>rfl) (fun x=>rfl)
theorem MC:qd oC ya:=gT (fun p=>[.bool p.1,.int .i64 p.2]) (fun w S cs x h=>h.1) (fun x=>rfl) (fun x u h=>by simp at h;rcases h with rfl | rfl<;>rfl) (fun x=>rfl)
theorem qe:qd fC bX:=gT ah.cells (fun w S cs x h=>h.1) (fun x=>rfl) (fun x u h=>by simp [ah.cells] at h;rcases h with rfl | rfl | rfl | rfl | rfl | rfl | rfl<;>rfl) (fun x=>rfl)
theorem pL {α:Type} {r:fS α} {w:World} {S:Nat -> Prop} {v:Value} {l:List α} (h:(aF r).one w S v l):v.oneCell'=true:=by
 obtain ⟨A,c,rfl,_⟩:=cB h;rfl
theorem OY:qd Ts IK:=fun w S cs x ⟨cv,h1,h2,_⟩=>by
 subst h1;refine ⟨rfl,fun j u av h3 h4=>?_⟩
 match j with
 | 0=>simp at h3 h4;subst h3;subst h4;exact ⟨.c _,rfl⟩
 | 1=>simp at h3 h4;subst h3;subst h4;exact ⟨.c _,rfl⟩
 | 2=>simp at h3 h4;subst h3;subst h4;exact ⟨qe.slice h2,pL h2⟩
 | j+3=>simp at h3
theorem MI:qd Tk Hj:=fun w S cs x ⟨cv,h1,h2,_⟩=>by
 subst h1;refine ⟨rfl,fun j u av h3 h4=>?_⟩
 match j with
 | 0=>simp at h3 h4;subst h3;subst h4;exact ⟨.c _,rfl⟩
 | 1=>simp at h3 h4;subst h3;subst h4;exact ⟨.c _,rfl⟩
 | 2=>simp at h3 h4;subst h3;subst h4;exact ⟨.c _,rfl⟩
 | 3=>simp at h3 h4;subst h3;subst h4;exact ⟨qe.slice h2,pL h2⟩
 | 4=>simp at h3 h4;subst h3;subst h4;exact ⟨.c _,rfl⟩
 | j+5=>simp at h3
theorem M1:qd UF MU:=fun w S cs x ⟨cv,h1,h2,_⟩=>by
 subst h1;refine ⟨rfl,fun j u av h3 h4=>?_⟩
 match j with
 | 0=>simp at h3 h4;subst h3;subst h4;exact ⟨.c _,rfl⟩
 | 1=>simp at h3 h4;subst h3;subst h4;exact ⟨.c _,rfl⟩
 | 2=>simp at h3 h4;subst h3;subst h4;exact ⟨.c _,rfl⟩
 | 3=>simp at h3 h4;subst h3;subst h4;exact ⟨tK.slice h2,pL h2⟩
 | 4=>simp at h3 h4;subst h3;subst h4;exact ⟨.c _,rfl⟩
 | j+5=>simp at h3
theorem RC {w:World} {V:MV} {m:bk} (h:yK w V m):RT w (fun b=>b<w.heap.size) (.agg V.cells) (.agg (aW m)):=by
 refine .agg _ _ rfl fun j u av h1 h2=>?_
 match j with
 | 0=>simp [MV.cells] at h1 h2;subst h1;subst h2;exact zB.slice h.attrs
 | 1=>simp [MV.cells] at h1 h2;subst h1;subst h2;exact tK.slice h.inits
 | 2=>simp [MV.cells] at h1 h2;subst h1;subst h2;exact zB.slice h.users
 | 3=>simp [MV.cells] at h1 h2;subst h1;subst h2;exact DK.slice h.roles
 | 4=>simp [MV.cells] at h1 h2;subst h1;subst h2;exact DK.slice h.stages
 | 5=>simp [MV.cells] at h1 h2;subst h1;subst h2;exact M1.slice h.events
 | 6=>simp [MV.cells] at h1 h2;subst h1;subst h2;exact OY.slice h.guards
 | 7=>simp [MV.cells] at h1 h2;subst h1;subst h2;exact MI.slice h.miles
 | 8=>simp [MV.cells] at h1 h2;subst h1;subst h2;exact Nh.slice h.sods
 | 9=>simp [MV.cells] at h1 h2;subst h1;subst h2;exact MC.slice h.order
 | j+10=>simp at h2
theorem gc {α:Type} {r:fS α} {w:World} {S:Nat -> Prop} {v:Value} {l:List α} {Q:α -> Prop} (h:(aF r).one w S v l) (hq:∀ cs x,r.at_ w S cs x -> Q x):∀ x ∈ l,Q x:=fun x hx=>by
 obtain ⟨i,hi,rfl⟩:=VB hx;obtain ⟨A,c,rfl,_⟩:=cB h;obtain ⟨b,o,rfl,_,hrow⟩:=db h (by omega);obtain ⟨cs,_,h2⟩:=hrow i hi;exact hq cs _ h2
theorem Fq {w:World} {V:MV} {m:bk} (h:yK w V m):CR m:=
 ⟨gc h.guards fun cs x ⟨cv,_,h2,_⟩=>gc h2 fun cs y h3=>h3.2,gc h.miles fun cs x ⟨cv,_,h2,_⟩=>gc h2 fun cs y h3=>h3.2⟩
end
section
theorem ov (st:aj) (id:Nat):dC st (ia st id):=fun cx a w L h=>⟨L,(pH h id).1,fun b hb=>⟨hb.1,hb.2.1,fun k o hk=>by
 unfold ia at hk;split at hk
 .simp only [ae.gc,dk] at hk;split at hk
  .cases hk
  .cases hg:st.tab.get k with
   | none=>simp [hg] at hk
   | some o'=>exact hb.2.2 k o' hg
 .exact hb.2.2 k o hk⟩⟩
end
section
section
variable {P:Program} {cx:Cx} {a:Act} {w w' w'':World} {st st':aj} {tab tab' tab'':ae} {L L' L'':Nat -> Value} {nx nx':Nat}
theorem Fz.refl:Fz w tab L w tab L:=⟨Os _,fun _ _ _=>rfl,fun id o g h1 h2 _=>⟨id,o,h1,h2⟩⟩
theorem Fz.trans (h:Fz w tab L w' tab' L') (k:Fz w' tab' L' w'' tab'' L''):Fz w tab L w'' tab'' L'':=
  ⟨Vz h.size k.size,
   fun j hj hn=>(k.keep j (Vm hj h.size) fun id o h1 h2=>(h.young id o j h1 h2 hj).elim fun id2 ⟨o2,h3,h4⟩=>hn id2 o2 h3 h4).trans (h.keep j hj hn),
   fun id o g h1 h2 hg=>(k.young id o g h1 h2 (Vm hg h.size)).elim fun id2 ⟨o2,h3,h4⟩=>h.young id2 o2 g h3 h4 hg⟩
theorem Fr.fz (h:Fr cx w tab L nx w' tab' L' nx'):Fz w tab L w' tab' L':=⟨h.size,h.keep,h.young⟩
theorem rC (hw:dC st st') (h:aJ cx a w st L):∃ L',aJ cx a w st' L' /\ Fz w st.tab L w st'.tab L':=by
 obtain ⟨L',h1,h2⟩:=hw _ _ _ _ h;refine ⟨L',h1,Os _,fun _ _ _=>rfl,fun id o g h3 h4 h5=>?_⟩;refine Classical.byContradiction fun hno=>?_;have hS:Sx cx w st.tab L g:=⟨h5,⟨.inr ((h1.lay.objs id o h3).ge h4).1,fun hX=>(h1.lay.ex g hX).2 id o h3 h4⟩,fun id2 o2 h6 h7=>hno ⟨id2,o2,h6,h7⟩⟩;exact (h2 g hS).2.2 id o h3 h4
theorem rK {ops:Array Oper} {K:aj -> Prop} {Q:Exit -> Act -> World -> Prop} {T:Nat -> Prop}:∀ (l:List Oper) (a:Act) (w:World) (st:aj) (L:Nat -> Value),(∀ o ∈ l,Kg o=true /\ ∀ t,T t -> o.dst ≠ some t) ->
  (∀ a' w' st' L',K st' -> aJ cx a' w' st' L' -> Fz w st.tab L w' st'.tab L' -> cw T a a' -> Q .normal a' w') -> aJ cx a w st L -> lx P ops K l st -> wpList P ops Q l a w
 | [],a,w,st,L,_,hQ,h,hp=>hQ a w st L hp h Fz.refl (.refl a)
 | o :: rest,a,w,st,L,hf,hQ,h,hp=>by
  unfold lx at hp;obtain ⟨hfo,hdo⟩:=hf o (V1 ..);have hrest:=fun o' (ho':o' ∈ rest)=>hf o' (VT _ ho');refine wpList_step fun K' hK'=>?_;rcases cz h hp o rfl with ⟨hw,st1,h1,h2,e1,e2⟩|⟨hw,st1,h1,h2,e1,e2⟩
  .rw [Vn hw];refine Oper.wp_mono (fun a' w' ⟨⟨st2,L2,h3,h4,h5,h6⟩,h7⟩=>hK' a' w' (rK rest a' w' st2 L2 hrest (fun a3 w3 st3 L3 h8 h9 h10 h11=>hQ a3 w3 st3 L3 h8 h9 ?_ (cw.trans ⟨h6,h7⟩ h11)) h4 h3)) (fl hdo (BQ h2 h1 hfo));have h5:=h5.fz;rw [e1] at h5;exact h5.trans h10
  .rw [Vh (by simp [hw])];refine hK' _ _ (rK rest _ w _ L hrest (fun a3 w3 st3 L3 h8 h9 h10 h11=>hQ a3 w3 st3 L3 h8 h9 ?_ (((cw.refl a).put hdo).trans h11)) (bZ h2 o.dst) h1);rw [bK,e1] at h10;exact h10
theorem Fz.below (hy:∀ id o g,tab.get id=some o -> aO (L id)=some g -> g<w.heap.size) (hb:Below w.heap.size w w'):Fz w tab L w' tab L:=⟨hb.size,fun k hk _=>hb.block k hk,fun id o g h1 h2 _=>⟨id,o,h1,h2⟩⟩
def gJ (t:Nat):Code -> Bool
 | .skip=>true
 | .region _ ops _=>ops.toList.all fun o=>Kg o && !(o.dst == some t)
 | .seq x y=>gJ t x && gJ t y
 | .cond _ x y=>gJ t x && gJ t y
 | .block _ x=>gJ t x
 | .loop x=>gJ t x
 | .exit _=>true
 | .ret=>true
 | .label _=>true
 | .scope x=>gJ t x
 | _=>false
abbrev wc (cx:Cx) (a:Act) (w:World) (tab:ae) (L:Nat -> Value) (t:Nat) (Q:Exit -> aj -> Prop):Exit -> Act -> World -> Prop:=fun e a' w'=>∃ st' L',Q e st' /\ aJ cx a' w' st' L' /\ Fz w tab L w' st'.tab L' /\ cw (fun k=>k=t) a a'
theorem zC (hm:P.follows .mixedOrders=true) (t:Nat):∀ (c:Code),gJ t c=true -> ∀ (Q:Exit -> aj -> Prop) (a:Act) (w:World) (st:aj) (L:Nat -> Value),aJ cx a w st L -> bB P c Q st -> c.wp P (wc cx a w st.tab L t Q) a w:=by
 intro c
 induction c with
 | skip=>exact fun _ Q a w st L h hp=>wp_skip ⟨st,L,hp,h,Fz.refl,.refl a⟩
 | region id ops draw=>
  intro hf Q a w st L h hp;unfold bB Et at hp;simp only [gJ,Xj,Vw] at hf;have hf:∀ o ∈ ops.toList,Kg o=true /\ ∀ k,k=t -> o.dst ≠ some k:=fun o ho=>⟨(hf o ho).1,fun k hk=>by subst hk;simpa using (hf o ho).2⟩;have hT:∀ (i:Nat) (o:Oper),ops[i]? = some o -> ∀ k,k=t -> o.dst ≠ some k:=fun i o ho=>(hf o (Array.mem_toList_iff.2 (Array.mem_of_getElem? ho))).2;have hyg:∀ id o g,st.tab.get id=some o -> aO (L id)=some g -> g<w.heap.size:=fun id o g h1 h2=>((h.lay.objs id o h1).ge h2).2
  cases draw with
  | false=>exact wp_region_list (rK (T:=fun k=>k=t) _ a w st L hf (fun a' w' st' L' h1 h2 h3 h4=>⟨st',L',h1,h2,h3,h4⟩) h (by simpa using hp))
  | true=>
   simp only [if_true] at hp;obtain ⟨l⟩:=ops;rcases hp with ⟨hB,hp⟩|⟨n,hB,hp⟩|⟨ids,hd,s,hB,K',hK',hids,hp⟩
   .exact wp_region_quiet (C:=fun w'=>Below w.heap.size w w') hm hB ((Below.refl _ _).drew) (mN (L:=L) (T:=fun k=>k=t) (a0:=a) (tab0:=st.tab) (fun a' st' h1 h2 h3 h4 w' hw'=>⟨st',L,h1,fT h2 hw',by rw [h3];exact Fz.below hyg hw',h4⟩) _ _ _ (fun o ho=>(hf o ho).2) rfl (.refl a) h hp)
   .have h':aJ cx a w.drew st L:=fT h ((Below.refl _ _).drew);have hz:Fz w st.tab L w.drew st.tab L:=Fz.below hyg ((Below.refl _ _).drew);exact wp_region_still_tail n hm hB (rq (T:=fun k=>k=t) (a0:=a) (tab0:=st.tab) (fun a' st' h1 h2 h3 h4=>rK (T:=fun k=>k=t) _ a' w.drew st' L (fun o ho=>hf o (Wp ho)) (fun a2 w2 st2 L2 h5 h6 h7 h8=>⟨st2,L2,h5,h6,hz.trans (by rw [<- h3];exact h7),h4.trans h8⟩) h2 h1) _ _ _ (fun o ho=>(hf o (VQ ho)).2) rfl (.refl a) h' hp)
   .simp only [Vw] at hB;have hB:=And.intro hB.1 (WW hB.2);have h':aJ cx a w.drew st L:=fT h ((Below.refl _ _).drew)
    let G:Nat -> Prop:=fun k=>∃ id ∈ ids,aO (L id)=some k
    refine Code.wp_mono (Q:=mq (wc cx a w st.tab L t Q)) (fun e a w hq=>?_) (wp_region_held (S:=fun w'=>lN w.drew.heap.size G w.drew w') hm ?_)
    .cases e<;>first|exact hq|exact hq.elim
    .refine lP (T:=st.tab) (Tz:=fun k=>k=t) (a0:=a) (nx:=st.next) (ids:=ids) hB.1.1 hT s ⟨Os _,fun _ _ _=>rfl⟩ (fun w' b hw' hb o u hu=>?_) (fun listed a' st' hA hT' hN hB' hK h2 fuel hf'=>?_) hd _ _ _ (.refl a) h' rfl rfl hB.1.2 hp _ hB.2
     .have hlt:=World.block_lt_of_cell? w.drew _ hu;refine (World.cell?_of_block (hw'.block b hlt fun ⟨id,hid,hbl⟩=>?_)).trans hu;obtain ⟨ob,hob⟩:=V3.1 (hids id hid);rcases hb with hb|⟨id',o',hni,hget,hbl'⟩
      .exact hb.2.2 id ob hob hbl
      .exact hni (h.lay.sep id' id o' ob b hget hob hbl' hbl ▸ hid)
     .refine ce (Q:=wc cx a w st.tab L t Q) (T0:=st.tab) (T:=fun k=>k=t) (a0:=a) (L0:=L) hB.1.1 hT (fun a2 w2 st2 L2 h3 h4 h5 h6 h7 h8=>?_) s listed a' w.drew st' L h2 ⟨Os _,fun _ _ _=>rfl⟩ (fun id o g h3 h4 _=>by
       rw [hT'] at h4;have:=(h.young id o h4).1;omega) (fun id hid g hg=>⟨id,hid,hg⟩) (fun id hid=>by
       obtain ⟨ob,hob⟩:=V3.1 (hids id hid);rw [hN];exact (h.young id ob hob).1) ⟨fun _ _=>rfl,by rw [hN];exact Os _,fun id o _ hg=>⟨o,by rw [<- hT'];exact hg⟩,fun id o g _ hni hg hbl=>?_⟩ hA hB' hK fuel hf'
      .obtain ⟨st3,hw3,h9⟩:=hK' st2 h3;obtain ⟨L3,h10,h11⟩:=rC hw3 h4;have hG:∀ k,G k -> ∃ id o,st.tab.get id=some o /\ aO (L id)=some k:=fun k ⟨id,hid,hbl⟩=>(V3.1 (hids id hid)).elim fun ob hob=>⟨id,ob,hob,hbl⟩
       have hz:Fz w st.tab L w2 st2.tab L2:=by
        have hsz:w.drew.heap.size=w.heap.size:=rfl;refine ⟨h5.size,fun k hk hn=>h5.block k hk fun hg=>?_,fun id o g h12 h13 h14=>?_⟩
        .obtain ⟨id,ob,h12,h13⟩:=hG k hg;exact hn id ob h12 h13
        .rcases Vv id st.next with hlt | hge
         .obtain ⟨o',ho'⟩:=h7.old id o hlt h12;exact ⟨id,o',ho',by rw [<- h7.loc id hlt];exact h13⟩
         .rcases h6 id o g hge h12 h13 with h15 | h15
          .have:w.heap.size<=g:=h15;omega
          .exact hG g h15
       exact ⟨st3,L3,h9,h10,hz.trans h11,h8⟩
      .refine ⟨((h'.lay.objs id _ hg).ge hbl).2,fun ⟨id',hid',hbl'⟩=>hni ?_⟩;obtain ⟨ob,hob⟩:=V3.1 (hids id' hid');exact h.lay.sep id id' _ ob g hg hob hbl hbl' ▸ hid'
 | seq x y ihx ihy=>
  intro hf Q a w st L h hp;simp only [gJ,Vw] at hf;unfold bB at hp;refine wp_seq (Code.wp_mono (fun e a' w' ⟨st',L',h1,h2,h3,h4⟩=>?_) (ihx hf.1 _ a w st L h hp))
  cases e with
  | normal=>exact Code.wp_mono (fun e a2 w2 ⟨st2,L2,k1,k2,k3,k4⟩=>⟨st2,L2,k1,k2,h3.trans k3,h4.trans k4⟩) (ihy hf.2 Q a' w' st' L' h2 h1)
  | _=>exact ⟨st',L',h1,h2,h3,h4⟩
 | cond c x y ihx ihy=>
  intro hf Q a w st L h hp;simp only [gJ,Vw] at hf;unfold bB n8 at hp;split at hp
  .rename_i b hb;have hv:=(am h c).1;rw [hb] at hv;have hv:=hv.c_inv;cases b
   .exact wp_cond_false hv (ihy hf.2 Q a w st L h hp)
   .exact wp_cond_true hv (ihx hf.1 Q a w st L h hp)
  .exact hp.elim
 | block id x ih=>
  intro hf Q a w st L h hp;simp only [gJ] at hf;unfold bB at hp;refine wp_block (Code.wp_mono (fun e a' w' ⟨st',L',h1,h2,h3⟩=>?_) (ih hf _ a w st L h hp))
  cases e with
  | exit id'=>
   simp only [ip,Exit.inBlock] at h1 ⊢;split
   .rename_i e;rw [Vn e] at h1;exact ⟨st',L',h1,h2,h3⟩
   .rename_i e;rw [Vh e] at h1;exact ⟨st',L',h1,h2,h3⟩
  | _=>exact ⟨st',L',h1,h2,h3⟩
 | loop x ih=>
  intro hf Q a0 w0 st0 L0 h hp;simp only [gJ] at hf;unfold bB at hp;obtain ⟨I,μ,⟨st1,hw1,hI⟩,hr⟩:=hp
  let p:Act -> World -> Nat -> Prop:=fun a w n=>∃ st L,I st /\ aJ cx a w st L /\ (Fz w0 st0.tab L0 w st.tab L /\ cw (fun k=>k=t) a0 a) /\ μ st=n
  obtain ⟨L1,hL1,hz1⟩:=rC hw1 h;refine wp_loop (fun a w=>∃ n,p a w n) (fun a w=>lm (p a w)) ⟨_,st1,L1,hI,hL1,⟨hz1,.refl a0⟩,rfl⟩ fun a w hpa=>?_;obtain ⟨⟨st,L,h1,h2,⟨h3,h3a⟩,h4⟩,_⟩:=gK hpa;refine Code.wp_mono (fun e a' w' ⟨st',L',h5,h6,h7,h8⟩=>?_) (ih hf _ a w st L h2 (hr st h1))
  cases e with
  | normal=>
   obtain ⟨st'',hw,hI'',hlt⟩:=h5;obtain ⟨L1,hL1,hz1⟩:=rC hw h6;have hpn:p a' w' (μ st''):=⟨st'',L1,hI'',hL1,⟨(h3.trans h7).trans hz1,h3a.trans h8⟩,rfl⟩;refine ⟨⟨_,hpn⟩,?_⟩;have:=(gK ⟨_,hpn⟩).2 _ hpn;show lm (p a' w')<lm (p a w);omega
  | _=>exact ⟨st',L',h5,h6,h3.trans h7,h3a.trans h8⟩
 | exit id=>exact fun _ Q a w st L h hp=>wp_exit ⟨st,L,hp,h,Fz.refl,.refl a⟩
 | ret=>exact fun _ Q a w st L h hp=>wp_ret ⟨st,L,hp,h,Fz.refl,.refl a⟩
 | label l=>exact fun _ Q a w st L h hp=>wp_label ⟨st,L,hp,h,Fz.refl,.refl a⟩
 | scope x ih=>
  intro hf Q a w st L h hp;simp only [gJ] at hf;unfold bB at hp;refine wp_scope_straight (Code.wp_mono (fun e a' w' ⟨st',L',h1,h2⟩=>?_) (ih hf _ a w st L h hp))
  cases e with
  | goto l=>exact h1
  | _=>exact ⟨st',L',h1,h2⟩
 | _=>exact fun hf=>(by cases hf)
end
end
end
section
section
def fg (st:aj) (ts:List Nat):List (Nat × AV):=ts.map fun t=>(t,st.get t)
theorem vK (st:aj) (t:Nat):∀ ts:List Nat,bh (fg st ts) t=st.get t \/ bh (fg st ts) t=.any
 | []=>.inr rfl
 | k :: ts=>by
  show (if t=k then st.get k else bh (fg st ts) t)=_ \/ (if t=k then st.get k else bh (fg st ts) t)=_;split
  .rename_i e;subst e;exact .inl rfl
  .exact vK st t ts
theorem bL (st:aj):fg st []=[]:=rfl
theorem bC (st:aj) (t:Nat) (ts:List Nat):fg st (t :: ts)=(t,st.get t) :: fg st ts:=rfl
def gz (vs:Array Value) (n nx g:Nat) (K:AV -> aj -> Prop) (st:aj) (av:AV):Prop:=
 match st.tab.get g with
 | some (.ghost vs' env)=>vs'=vs /\ K (av.shift nx) ⟨n,ca nx env,(g+nx,none) :: st.tab.shift nx,nx+st.next⟩
 | _=>False
def zh (P:Program) (rs:List ResultVar) (vs:Array Value) (n nx g:Nat) (K:AV -> aj -> Prop):Exit -> aj -> Prop
 | .normal,st=>cW P st rs fun avs=>gz vs n nx g K st (gD avs)
 | .ret,st=>cW P st rs fun avs=>gz vs n nx g K st (gD avs)
 | _,_=>False
section
variable {P:Program} {rs:List ResultVar} {vs:Array Value} {n nx g k i:Nat} {K:AV -> aj -> Prop} {st:aj} {o:aE} {T:ae}
theorem fP:zh P rs vs n nx g K .normal st=cW P st rs fun avs=>gz vs n nx g K st (gD avs):=rfl
theorem fR:zh P rs vs n nx g K .ret st=cW P st rs fun avs=>gz vs n nx g K st (gD avs):=rfl
theorem aB:ae.shift k []=[]:=rfl
theorem bG:ae.shift k ((i,some o) :: T)=(i+k,some (o.shift k)) :: ae.shift k T:=rfl
theorem bF:ae.shift k ((i,none) :: T)=(i+k,none) :: ae.shift k T:=rfl
end
theorem CI {n m:Nat} (hnm:n<=m):∀ {o:aE},o.lt n -> o.lt m
 | .box _ _,h=>ak.2 fun x hx=>AV.lt_mono hnm (ak.1 h x hx)
 | .row _ _ _,_=>trivial
 | .map _,_=>trivial
 | .nest _ _ _,h=>fun row hr=>ak.2 fun x hx=>AV.lt_mono hnm (ak.1 (h row hr) x hx)
 | .ghost _ _,h=>dF hnm h
theorem Ah {n k:Nat}:∀ {o:aE},o.lt n -> (o.shift k).lt (k+n)
 | .box _ cells,h=>by
  show AV.ltL _ (AV.shiftL k cells);rw [br];refine ak.2 fun x hx=>?_;obtain ⟨y,hy,rfl⟩:=Vt.1 hx;exact ic (ak.1 h y hy)
 | .row _ _ _,_=>trivial
 | .map _,_=>trivial
 | .nest _ _ rows,h=>by
  intro row hr;obtain ⟨r,hr',rfl⟩:=Vt.1 hr;rw [br];refine ak.2 fun x hx=>?_;obtain ⟨y,hy,rfl⟩:=Vt.1 hx;exact ic (ak.1 (h r hr') y hy)
 | .ghost _ _,h=>lI h
theorem HJ (k:Nat) (o:aE):(o.shift k).sz=o.sz:=by cases o<;>simp [aE.shift,aE.sz,br]
theorem tS {cx:Cx} {a:Act} {w:World} {st:aj} {L:Nat -> Value} (h:aJ cx a w st L):∀ ts:List Nat,dD st.next (fg st ts)
 | []=>trivial
 | t :: ts=>⟨(h.env t).2,tS h ts⟩
section
variable {P:Program} {cx:Cx} {a:Act} {w:World} {st:aj} {L:Nat -> Value}
theorem r7 (h:aJ cx a w st L):∀ (l:List ResultVar) (K:List AV -> Prop),cW P st l K ->
  ∃ vs avs,K avs /\ vs.length=avs.length /\ AV.ltL st.next avs /\ (∀ (j:Nat) (v:Value) (av:AV),vs[j]? = some v -> avs[j]? = some av -> bN cx w st.tab L v av) /\
   (l.mapM (np a.tmps):Sem (List Value)).run P w=.ok vs w
 | [],K,hp=>⟨[],[],hp,rfl,trivial,by simp,by simp⟩
 | .tmp t :: l,K,hp=>by
  obtain ⟨vs,avs,h1,h2,hl,h3,h4⟩:=r7 h l _ hp;refine ⟨a.tmps.getD t undef :: vs,st.get t :: avs,h1,by simp [h2],⟨(h.env t).2,hl⟩,fun j v av h5 h6=>?_,?_⟩
  .cases j with
   | zero=>
    cases h5;cases h6;exact (h.env t).1
   | succ j=>exact h3 j v av (by simpa using h5) (by simpa using h6)
  .simp only [List.mapM_cons,np,Sem.run_bind,Sem.run_pure,Result.andThen_ok,h4]
 | .cell p ty :: l,K,hp=>by
  obtain ⟨u,au,h1,h2,h3,h4⟩:=(wb (nx:=st.next) h.lay (fun id o hid=>(h.young id o hid).2) (h.env p).1 hp).one;obtain ⟨vs,avs,h5,h6,hl,h7,h8⟩:=r7 h l _ h1;refine ⟨u :: vs,au :: avs,h5,by simp [h6],⟨h3,hl⟩,fun j v av h9 h10=>?_,?_⟩
  .cases j with
   | zero=>
    cases h9;cases h10;exact h2
   | succ j=>exact h7 j v av (by simpa using h9) (by simpa using h10)
  .have:=lL (h4 w (Below.refl _ _));simp only [List.mapM_cons,np];rw [Sem.run_bind,this];simp only [Sem.run_bind,Sem.run_pure,Result.andThen_ok,h8]
theorem Nt {fn:Func} {K:AV -> Prop} (h:aJ cx a w st L) (hp:cW P st fn.results.toList fun avs=>K (gD avs)):∃ v av,K av /\ bN cx w st.tab L v av /\ av.lt st.next /\ (results fn a.tmps).run P w=.ok v w:=by
 obtain ⟨vs,avs,h1,h2,hl,h3,h4⟩:=r7 h _ _ hp
 have hm:(results fn a.tmps).run P w=.ok (if h:vs.toArray.size=1 then vs.toArray[0] else .tuple vs.toArray) w:=by
  rw [tl,Sem.run_bind,Array.mapM_eq_mapM_toList];simp only [bind_pure_comp,Sem.run_map,h4];rfl
 refine ⟨_,gD avs,h1,?_,?_,hm⟩
 .clear hm h4 h1 hl
  match vs,avs,h2,h3 with
  | [v],[av],_,h3=>exact h3 0 v av rfl rfl
  | [],[],_,h3=>exact .tup _ _ rfl (by simp)
  | v :: v' :: vs,av :: av' :: avs,h2,h3=>
   simp only [gD,Xm,VI];rw [dif_neg (by omega)];exact .tup _ _ (by simpa using h2) fun j x av h4 h5=>h3 j x av (by simpa using h4) h5
 .clear hm h4 h1 h3 h2
  match avs,hl with
  | [av],hl=>exact hl.1
  | [],hl=>exact hl
  | av :: av' :: avs,hl=>exact hl
end
def T6 (P:Program) (c:Code) (t:Nat) (Q:Exit -> aj -> Prop) (st:aj):Prop:=∀ (cx:Cx) (a:Act) (w:World) (L:Nat -> Value),aJ cx a w st L -> c.wp P (wc cx a w st.tab L t Q) a w
theorem Ta {P:Program} (hm:P.follows .mixedOrders=true) {c:Code} {t:Nat} (hz:gJ t c=true) {Q:Exit -> aj -> Prop} {st:aj} (h:bB P c Q st):T6 P c t Q st:=fun cx a w L hc=>zC hm t c hz Q a w st L hc h
theorem T6.weak {P:Program} {c:Code} {t:Nat} {Q:Exit -> aj -> Prop} {st st':aj} (hw:dC st st') (h:T6 P c t Q st'):T6 P c t Q st:=fun cx a w L hc=>by
 obtain ⟨L',hc',hz⟩:=rC hw hc;exact Code.wp_mono (fun e a' w' ⟨st2,L2,h1,h2,h3,h4⟩=>⟨st2,L2,h1,h2,hz.trans h3,h4⟩) (h cx a w L' hc')
theorem Bs {P : Program} {f : FuncId} {fn : Func} {c : Code} (hf : P.funcs[f]? = some fn) (hb : fn.body = some c) (hname : (fn.name == "runtime.NumGoroutine") = false) {st : aj} {avs : List AV} {K : AV → aj → Prop} {n : Nat} (hnt : fn.ntmps = n) {rs : List ResultVar} (hrs : fn.results = rs.toArray)
  (hn:Nat.ble avs.length n=true) (g:Nat) (ts:List Nat)
  (h:∀ vs:Array Value,T6 P c n (zh P rs vs st.n st.next g K) ⟨n,dh 0 avs,(st.next,some (.ghost vs (fg st ts))) :: st.tab,st.next+1⟩):IV P st f avs K:=by
 have hn:=WW hn;subst hnt;refine ⟨fun vs w=>?_,fun cx a w L vs dst hc hvn hv=>?_⟩
 ·have : ¬ fn.name = "runtime.NumGoroutine" := by simpa using hname
  simp [callFunc,Sem.run_bind,hf,this,hb]
 obtain ⟨tab2,ht2⟩:∃ tab2:ae,tab2=(st.next,some (.ghost a.tmps (fg st ts))) :: st.tab:=⟨_,rfl⟩;have hget:∀ id,tab2.get id=if id=st.next then some (.ghost a.tmps (fg st ts)) else st.tab.get id:=fun id=>by rw [ht2,ae.gc]
 have hnone:∀ id o,st.next<=id -> st.tab.get id=some o -> False:=fun id o h1 h2=>by have:=(hc.young id o h2).1;omega
 have hold:∀ id,id<st.next -> tab2.get id=st.tab.get id /\ bq L st.next (.bool false) id=L id:=fun id hid=>⟨by rw [hget,Vh (by omega)],by unfold bq;rw [Vh (by omega)]⟩;have hLG:bq L st.next (.bool false) st.next=.bool false:=by unfold bq;rw [Vn rfl]
 have hge:∀ id o,st.next<=id -> tab2.get id=some o -> id=st.next /\ o=.ghost a.tmps (fg st ts):=fun id o h1 h2=>by
  rw [hget] at h2;split at h2
  .rename_i e;cases h2;exact ⟨e,rfl⟩
  .exact (hnone id o h1 h2).elim
 have hnew:∀ id o b,st.next<=id -> tab2.get id=some o -> aO (bq L st.next (.bool false) id)=some b -> w.heap.size<=b:=fun id o b h1 h2 h3=>by
  obtain ⟨rfl,_⟩:=hge id o h1 h2;rw [hLG] at h3;cases h3
 have hext:=gV (cx:=cx) (Below.refl w.heap.size w) hold (fun id o hid=>(hc.young id o hid).1) hnew
 have hlay:iL cx w tab2 (bq L st.next (.bool false)):=jX hc.lay hc.young (Below.refl _ _) hold (fun id o h1 h2=>by
   obtain ⟨rfl,rfl⟩:=hge id o h1 h2;refine ⟨hLG,fun t ht=>?_⟩;rcases vK st t ts with e|e
   .rw [e];exact hext.rv (hc.env t).1 (hc.env t).2
   .rw [e];exact .tree (.any _)) hnew fun id id' o o' b h1 h2 h3 h4 _ _=>by rw [(hge id o h1 h3).1,(hge id' o' h2 h4).1]
 have hyoung:∀ id o,tab2.get id=some o -> id<st.next+1 /\ o.lt (st.next+1):=fun id o hid=>by
  rcases Vv id st.next with hlt|hge'
  .rw [(hold id hlt).1] at hid;have:=hc.young id o hid;exact ⟨by omega,CI (VR _) this.2⟩
  .obtain ⟨rfl,rfl⟩:=hge id o hge' hid;exact ⟨Wb _,dF (VR _) (tS hc ts)⟩
 have hC:aJ cx { tmps:=vs ++ Array.replicate (fn.ntmps - vs.size) undef,defers:=[] } w ⟨fn.ntmps,dh 0 avs,tab2,st.next+1⟩ (bq L st.next (.bool false)):=by
  refine ⟨hlay,?_,jt.nil _ _ _,hyoung,fun t=>?_⟩
  .simp;omega
  have e:(⟨fn.ntmps,dh 0 avs,tab2,st.next+1⟩:aj).get t=avs.getD t .any:=by
   show (if t<fn.ntmps then bh (dh 0 avs) t else .any)=_;rw [iP];split
   .simp
   .simp [List.getD,Vs (show avs.length<=t by omega)]
  rw [e];by_cases ht:t<avs.length
  .have ht':t<vs.size:=by omega
   have e2:(vs ++ Array.replicate (fn.ntmps - vs.size) undef).getD t undef=vs[t]:=by
    rw [V9,V5 ht',Vj ht'];rfl
   have e3:avs.getD t .any=avs[t]:=(by simp [List.getD,ht]);rw [e2,e3];have:=hv t _ _ (Vj ht') (f4 ht);exact ⟨hext.rv this.1 this.2,AV.lt_mono (VR _) this.2⟩
  .have e3:avs.getD t .any=.any:=(by simp [List.getD,Vs (Nat.le_of_not_lt ht)]);rw [e3];exact ⟨.tree (.any _),trivial⟩
 have hcode:=h a.tmps;rw [<- ht2] at hcode;refine calls_of_wp hf hb (Code.wp_mono (fun ex a' w' ⟨st',L',h1,h2,h3,hA⟩=>?_) (hcode cx _ w _ hC))
 have hown2:∀ b,(∀ id o,st.tab.get id=some o -> aO (L id) ≠ some b) -> ∀ id o,tab2.get id=some o -> aO (bq L st.next (.bool false) id) ≠ some b:=fun b hb id o hid hg=>by
  rcases Vv id st.next with hlt|hge'
  .rw [(hold id hlt).1] at hid;rw [(hold id hlt).2] at hg;exact hb id o hid hg
  .obtain ⟨rfl,_⟩:=hge id o hge' hid;rw [hLG] at hg;cases hg
 have hback:∀ id o b,tab2.get id=some o -> aO (bq L st.next (.bool false) id)=some b -> ∃ id2 o2,st.tab.get id2=some o2 /\ aO (L id2)=some b:=fun id o b hid hg=>by
  rcases Vv id st.next with hlt|hge'
  .rw [(hold id hlt).1] at hid;rw [(hold id hlt).2] at hg;exact ⟨id,o,hid,hg⟩
  .obtain ⟨rfl,_⟩:=hge id o hge' hid;rw [hLG] at hg;cases hg
 have key:(cW P st' rs fun avs=>gz a.tmps st.n st.next g K st' (gD avs)) -> a'.defers=[] /\ ∃ u,(results fn a'.tmps).run P w'=.ok u w' /\ ∃ v av st'' L'',Ending.returned u=.returned v /\ K av st'' /\ aJ cx (a.put dst v) w' (st''.put dst av) L'' /\ Fr cx w st.tab L st.next w' st''.tab L'' st''.next:=fun h1=>by
  obtain ⟨v,av,hbk,hrv,hlv,hrun⟩:=Nt (K:=fun av=>gz a.tmps st.n st.next g K st' av) (fn:=fn) h2 (by rw [hrs];exact h1);refine ⟨hA.defers,v,hrun,?_⟩;unfold gz at hbk;split at hbk
  case h_2=>exact hbk.elim
  rename_i vs' env hg;obtain ⟨rfl,hK⟩:=hbk;obtain ⟨_,hgh⟩:=h2.lay.objs g _ hg;have hghl:=(h2.young g _ hg).2;obtain ⟨tab3,ht3⟩:∃ tab3:ae,tab3=(g+st.next,none) :: st'.tab.shift st.next:=⟨_,rfl⟩;rw [<- ht3] at hK
  have hsh:∀ id,(ae.shift st.next st'.tab).get id=if id<st.next then none else (st'.tab.get (id - st.next)).map (aE.shift st.next):=fun id=>by
   have:=pu (tab:=[]) (k:=st.next) (fun id o h=>by cases h) st'.tab id;rw [Wn] at this;exact this
  have hget3:∀ id o,tab3.get id=some o -> st.next<=id /\ ∃ o',st'.tab.get (id - st.next)=some o' /\ o=o'.shift st.next:=fun id o hid=>by
   rw [ht3,ae.gc] at hid;split at hid
   .cases hid
   .rw [hsh] at hid;split at hid
    .cases hid
    .rename_i hlt
     cases ho:st'.tab.get (id - st.next) with
     | none=>rw [ho] at hid;cases hid
     | some o'=>
      rw [ho] at hid;cases hid;exact ⟨by omega,o',rfl,rfl⟩
  have hS3:∀ b,Sx cx w' st'.tab L' b -> Sx cx w' tab3 (fun id=>L' (id - st.next)) b:=fun b hb=>⟨hb.1,hb.2.1,fun id o hid hg=>by
   obtain ⟨_,o',h4,_⟩:=hget3 id o hid;exact hb.2.2 _ o' h4 hg⟩
  have hK3:∀ id p,Kx tab3 (fun id=>L' (id - st.next)) (id+st.next)=some p -> Kx st'.tab L' id=some p:=fun id p hk=>by
   unfold Kx at *
   cases ho:tab3.get (id+st.next) with
   | none=>rw [ho] at hk;cases hk
   | some o=>
    obtain ⟨_,o',h4,h5⟩:=hget3 _ o ho;rw [WB] at h4;rw [ho] at hk;rw [h4];simp only [VX,WB,h5,HJ] at hk ⊢;exact hk
  have hrv3:∀ {x av},bN cx w' st'.tab L' x av -> bN cx w' tab3 (fun id=>L' (id - st.next)) x (av.shift st.next):=fun hr=>hr.conv (.inl hS3) hK3
  have hlay3:iL cx w' tab3 (fun id=>L' (id - st.next)):=by
   refine ⟨h2.lay.below,fun id o hid=>?_,fun id id' o o' b h4 h5 h6 h7=>?_,fun b hb=>⟨(h2.lay.ex b hb).1,fun id o hid=>?_⟩⟩
   .obtain ⟨_,o',h4,rfl⟩:=hget3 id o hid;have hob:=h2.lay.objs _ o' h4
    cases o' with
    | box t cells=>
     obtain ⟨g',cs,h5,h6,h7,h8,h9⟩:=hob;refine ⟨g',cs,h5,h6,h7,by simpa [br] using h8,fun j x av h10 h11=>?_⟩;rw [br,Ve] at h11
     cases hj:cells[j]? with
     | none=>simp [hj] at h11
     | some av'=>
      simp [hj] at h11;subst h11;exact ⟨hrv3 (h9 j x av' h10 hj).1,(h9 j x av' h10 hj).2⟩
    | row e sz rows=>
     obtain ⟨h5,xs,h6,h7,h8⟩:=hob;refine ⟨h5,xs,h6,h7,fun i j row av h9 h10=>?_⟩;obtain ⟨x,hx,hrt⟩:=h8 i j row av h9 h10;exact ⟨x,hx,hrt.mono (fun _ _=>rfl) hS3⟩
    | map ents=>exact hob
    | nest e sz rows=>
     obtain ⟨h5,xs,h6,h7,h8⟩:=hob;refine ⟨fun row hr=>?_,xs,by rw [Vo];exact h6,h7,fun i j row av h9 h10=>?_⟩
     .obtain ⟨r,hr',rfl⟩:=Vt.1 hr;rw [br,Vo];exact h5 r hr'
     .rw [Ve] at h9
      cases hi:rows[i]? with
      | none=>simp [hi] at h9
      | some row'=>
       simp [hi] at h9;subst h9;rw [br,Ve] at h10
       cases hj:row'[j]? with
       | none=>simp [hj] at h10
       | some av'=>
        simp [hj] at h10;subst h10;obtain ⟨x,hx,hr⟩:=h8 i j row' av' hi hj;exact ⟨x,hx,hrv3 hr⟩
    | ghost vs2 env2=>
     refine ⟨hob.1,fun t ht=>?_⟩;rw [iI];exact hrv3 (hob.2 t ht)
   .obtain ⟨k1,o1,h8,_⟩:=hget3 id o h4;obtain ⟨k2,o2,h9,_⟩:=hget3 id' o' h5;have:=h2.lay.sep _ _ o1 o2 b h8 h9 h6 h7;omega
   .obtain ⟨_,o',h4,_⟩:=hget3 id o hid;exact (h2.lay.ex b hb).2 _ o' h4
  have hblk:∀ b,Sx cx w st.tab L b -> w'.heap[b]? = w.heap[b]?:=fun b hb=>h3.keep b hb.1 (hown2 b hb.2.2)
  have hsub:∀ b,Sx cx w st.tab L b -> Sx cx w' tab3 (fun id=>L' (id - st.next)) b:=fun b hb=>⟨Vm hb.1 h3.size,hb.2.1,fun id o hid hg=>by
   obtain ⟨_,o',h4,_⟩:=hget3 id o hid;obtain ⟨id2,o2,h5,h6⟩:=h3.young _ o' b h4 hg hb.1;exact hown2 b hb.2.2 id2 o2 h5 h6⟩
  have hC3:aJ cx a w' ⟨st.n,ca st.next env,tab3,st.next+st'.next⟩ (fun id=>L' (id - st.next)):=by
   refine ⟨hlay3,hc.size,hc.defers.mono hblk hsub,fun id o hid=>?_,fun t=>?_⟩
   .obtain ⟨h4,o',h5,rfl⟩:=hget3 id o hid;have:=h2.young _ o' h5;refine ⟨?_,Ah this.2⟩;show id<st.next+st'.next;omega
   .show bN cx w' tab3 _ _ (if t<st.n then bh (ca st.next env) t else .any) /\ AV.lt _ (if t<st.n then bh (ca st.next env) t else .any);split
    .rename_i htn;rw [iI];exact ⟨hrv3 (hgh t (by rw [hc.size];exact htn)),ic (fU hghl t)⟩
    .exact ⟨.tree (.any _),trivial⟩
  refine ⟨v,_,_,_,rfl,hK,bl hC3 (hrv3 hrv) (ic hlv) dst,⟨⟨hblk,hsub,fun id p hid hk=>?_⟩,h3.size,fun k hk hn=>h3.keep k hk (hown2 k hn),fun id o b h4 h5 h6=>?_,WY _ _⟩⟩
  .unfold Kx at hk
   cases ho:tab3.get id with
   | none=>rw [ho] at hk;cases hk
   | some o=>
    have:=(hget3 id o ho).1;omega
  .obtain ⟨_,o',h7,_⟩:=hget3 id o h4;obtain ⟨id2,o2,h8,h9⟩:=h3.young _ o' b h7 h5 h6;exact hback id2 o2 b h8 h9
 cases ex with
 | normal=>exact key h1
 | ret=>exact key h1
 | _=>exact h1.elim
theorem z6 {P : Program} (hm : P.follows .mixedOrders = true) {f : FuncId} {fn : Func} {c : Code} (hf : P.funcs[f]? = some fn) (hb : fn.body = some c) (hname : (fn.name == "runtime.NumGoroutine") = false) {st : aj} {avs : List AV} {K : AV → aj → Prop} {n : Nat} (hnt : fn.ntmps = n) {rs : List ResultVar} (hrs : fn.results = rs.toArray)
  (hn:Nat.ble avs.length n=true) (hz:gJ n c=true) (g:Nat) (ts:List Nat)
  (h:∀ vs:Array Value,bB P c (zh P rs vs st.n st.next g K) ⟨n,dh 0 avs,(st.next,some (.ghost vs (fg st ts))) :: st.tab,st.next+1⟩):IV P st f avs K:=
 Bs hf hb hname hnt hrs hn g ts fun vs=>Ta hm hz (h vs)
theorem cd {P : Program} (hm : P.follows .mixedOrders = true) {f : FuncId} {fn : Func} {c : Code} (hf : P.funcs[f]? = some fn) (hb : fn.body = some c) (hname : (fn.name == "runtime.NumGoroutine") = false) {st : aj} {avs : List AV} {K : AV → aj → Prop} {n : Nat} (hnt : fn.ntmps = n) {rs : List ResultVar} (hrs : fn.results = rs.toArray)
  (hn:Nat.ble avs.length n=true) (hz:gJ n c=true) (ts:List Nat)
  (h:∀ vs:Array Value,bB P c (zh P rs vs st.n st.next st.next K) ⟨n,dh 0 avs,(st.next,some (.ghost vs (fg st ts))) :: st.tab,st.next+1⟩):IV P st f avs K:=
 z6 hm hf hb hname hnt hrs hn hz st.next ts h
theorem TN {cx:Cx} {a:Act} {w:World} {st st':aj} {L L':Nat -> Value} (h1:aJ cx a w st' L') (h2:∀ b,Sx cx w st.tab L b -> Sx cx w st'.tab L' b):Fz w st.tab L w st'.tab L':=by
 refine ⟨Os _,fun _ _ _=>rfl,fun id o g h3 h4 h5=>?_⟩;refine Classical.byContradiction fun hno=>?_;have hS:Sx cx w st.tab L g:=⟨h5,⟨.inr ((h1.lay.objs id o h3).ge h4).1,fun hX=>(h1.lay.ex g hX).2 id o h3 h4⟩,fun id2 o2 h6 h7=>hno ⟨id2,o2,h6,h7⟩⟩;exact (h2 g hS).2.2 id o h3 h4
theorem bS {P : Program} (hm : P.follows .mixedOrders = true) {f : FuncId} {fn : Func} {c : Code} (hf : P.funcs[f]? = some fn) (hb : fn.body = some c) (hname : (fn.name == "runtime.NumGoroutine") = false) {n : Nat} (hnt : fn.ntmps = n) {rs : List ResultVar} (hrs : fn.results = rs.toArray)
  {t:TypeId} {cells:List AV} {objs:List aE} {rest:List AV} {Post:AV -> List AV -> List aE -> Prop} (hn:Nat.ble (rest.length+1) n=true) (hz:gJ 0 c=true) (hlt:AV.ltL (objs.length+1) cells) (hpl:∀ o ∈ objs,bQ o)
  (h:bB P c (Pj P rs t cells.length Post) ⟨n,dh 0 (.op 0 0 0 :: rest),bR 0 (.box t cells :: objs),objs.length+1⟩):En P f t cells objs rest Post:=by
 have hn:=WW hn;subst hnt;refine ⟨fun vs w=>?_,hlt,fun cx w L vs hlay hvn hv0 hvr=>?_⟩
 ·have : ¬ fn.name = "runtime.NumGoroutine" := by simpa using hname
  simp [callFunc,Sem.run_bind,hf,this,hb]
 obtain ⟨tab0,ht0⟩:∃ tab0,tab0=bR 0 (aE.box t cells :: objs):=⟨_,rfl⟩;rw [<- ht0] at hlay hvr h ⊢;have hget0:tab0.get 0=some (.box t cells):=by rw [ht0,iQ];rfl
 obtain ⟨g,cs,hLb,_,hheap,_⟩:=hlay.objs 0 _ hget0;have hvz:∃ x,vs[0]? = some x:=⟨_,Vj (by omega)⟩;obtain ⟨x0,hx0⟩:=hvz;obtain rfl:=hv0 x0 hx0
 have hC:aJ cx { tmps:=vs ++ Array.replicate (fn.ntmps - vs.size) undef,defers:=[] } w ⟨fn.ntmps,dh 0 (.op 0 0 0 :: rest),tab0,objs.length+1⟩ L:=by
  refine ⟨hlay,?_,jt.nil _ _ _,fun id o ho=>?_,fun k=>?_⟩
  .simp;omega
  .rw [ht0,iQ] at ho;simp only [Vg,if_true,Nat.sub_zero] at ho;have hlen:=(Vd.1 ho).1;refine ⟨by simpa using hlen,?_⟩
   cases id with
   | zero=>
    simp at ho;subst ho;exact hlt
   | succ id=>exact vD (hpl o (p0 (by simpa using ho))) _
  have e:(⟨fn.ntmps,dh 0 (.op 0 0 0 :: rest),tab0,objs.length+1⟩:aj).get k=(AV.op 0 0 0 :: rest).getD k .any:=by
   show (if k<fn.ntmps then bh (dh 0 (.op 0 0 0 :: rest)) k else .any)=_;rw [iP];split
   .simp
   .simp [List.getD,Vs (show (AV.op 0 0 0 :: rest).length<=k by simp;omega)]
  rw [e];by_cases hlt':k<rest.length+1
  .have ht':k<vs.size:=by omega
   have e2:(vs ++ Array.replicate (fn.ntmps - vs.size) undef).getD k undef=vs[k]:=by
    rw [V9,V5 ht',Vj ht'];rfl
   rw [e2]
   cases k with
   | zero=>
    have e3:vs[0]=L 0:=by
     have h0:vs[0]? = some vs[0]:=Vj (by omega);exact WE (h0.symm.trans hx0)
    rw [e3,hLb]
    exact ⟨.op _ 0 0 0 fun sz v' hk=>by
     simp [Kx,hget0,hLb] at hk;rw [<- hk.2];exact ⟨g,rfl,by simp⟩,Nat.succ_pos _⟩
   | succ k=>
    have hr:k<rest.length:=(by omega);have e4:(AV.op 0 0 0 :: rest).getD (k+1) .any=rest[k]:=(by simp [List.getD,hr]);rw [e4];have:=hvr k _ _ (Vj ht') (f4 hr);exact ⟨.tree this,this.lt _⟩
  .have e3:(AV.op 0 0 0 :: rest).getD k .any=.any:=(by simp [List.getD,Vs (show (AV.op 0 0 0 :: rest).length<=k by simp;omega)]);rw [e3];exact ⟨.tree (.any _),trivial⟩
 refine calls_of_wp hf hb (Code.wp_mono (fun ex a' w' ⟨st',L',h1,h2,h3,hA⟩=>?_) (zC hm 0 c hz _ _ w _ _ hC h))
 have h50:a'.tmps.getD 0 undef=L 0:=by
  rw [hA.slots 0 rfl,V9,V5 (by omega),hx0];rfl
 have key:(cW P st' rs fun avs=>∃ cells' objs',Post (gD avs) cells' objs' /\ eU (gD avs) /\ (cells'.length=cells.length /\ AV.ltL (objs'.length+1) cells' /\ ∀ o ∈ objs',bQ o) /\ dC st' ⟨st'.n,[(0,.op 0 0 0)],bR 0 (.box t cells' :: objs'),objs'.length+1⟩) ->
   a'.defers=[] /\ ∃ u,(results fn a'.tmps).run P w'=.ok u w' /\ ∃ v av cells' objs' L',Ending.returned u=.returned v /\ Post av cells' objs' /\ iL cx w' (bR 0 (.box t cells' :: objs')) L' /\ RT w' (Sx cx w' (bR 0 (.box t cells' :: objs')) L') v av /\ L' 0=L 0 /\ cells'.length=cells.length /\
   AV.ltL (objs'.length+1) cells' /\ (∀ o ∈ objs',bQ o) /\ Fz w tab0 L w' (bR 0 (.box t cells' :: objs')) L':=fun h1=>by
  obtain ⟨u,av,⟨cells',objs',hPost,hro,⟨hl1,hl2,hl3⟩,hw⟩,hrv,hrun⟩:=LH (K:=fun av=>∃ cells' objs',Post av cells' objs' /\ eU av /\ (cells'.length=cells.length /\ AV.ltL (objs'.length+1) cells' /\ ∀ o ∈ objs',bQ o) /\ dC st' ⟨st'.n,[(0,.op 0 0 0)],bR 0 (.box t cells' :: objs'),objs'.length+1⟩) (fn:=fn) h2 (by rw [hrs];exact h1);obtain ⟨L2,hC2,hS2⟩:=hw _ _ _ _ h2;refine ⟨hA.defers,u,hrun,u,av,cells',objs',L2,rfl,hPost,hC2.lay,(O9 hrv hro).mono (fun _ _=>rfl) hS2,?_,hl1,hl2,hl3,h3.trans (TN hC2 hS2)⟩;have hget2:(bR 0 (aE.box t cells' :: objs')).get 0=some (.box t cells'):=by rw [iQ];rfl
  obtain ⟨g2,cs2,hL2,_⟩:=hC2.lay.objs 0 _ hget2;have hr:=(hC2.env 0).1
  have e5:(⟨st'.n,[(0,.op 0 0 0)],bR 0 (.box t cells' :: objs'),objs'.length+1⟩:aj).get 0=.op 0 0 0:=by
   have:0<st'.n:=by
    have h6:=h2.size;refine Nat.pos_of_ne_zero fun h7=>?_;have h8:a'.tmps = #[]:=Array.eq_empty_of_size_eq_zero (by omega);rw [h8,hLb] at h50;cases h50
   simp [aj.get,bh,this]
  rw [e5,h50] at hr;obtain ⟨g3,hg3,he⟩:=hr.op_inv _ _ (cQ hget2);rw [hL2] at hg3 ⊢;cases hg3;rw [he];simp
 cases ex with
 | normal=>exact key h1
 | ret=>exact key h1
 | _=>exact h1.elim
theorem oJ (l:List Nat):∀ {cs:List AV},aM cs -> AV.renL l cs=cs
 | [],_=>rfl
 | a :: cs,h=>by
  have h1:aU a:=h.1;have h2:=oJ l (cs:=cs) h.2;show a.ren l :: AV.renL l cs=a :: cs;rw [h2];cases a<;>first|rfl|exact (h1:False).elim
theorem PR (l:List Nat) {a:AV} (h:eU a):a.ren l=a:=by
 cases a with
 | osl=>exact h.elim
 | op=>exact h.elim
 | tup=>exact h.elim
 | agg cs=>show AV.agg _=_;rw [oJ l h]
 | fn f cs=>show AV.fn f _=_;rw [oJ l h]
 | bfn f cs=>show AV.bfn f _=_;rw [oJ l h]
 | _=>rfl
theorem DW (l:List Nat):∀ {cs:List AV},dJ cs -> AV.renL l cs=cs
 | [],_=>rfl
 | a :: cs,h=>by
  show a.ren l :: AV.renL l cs=a :: cs;rw [PR l h.1,DW l h.2]
theorem En.toA {P:Program} {f:FuncId} {t:TypeId} {cells:List AV} {objs:List aE} {rest:List AV} {Post:AV -> List AV -> List aE -> Prop} (h:En P f t cells objs rest Post) (hro:dJ rest):IM P f t cells objs (.op 0 0 0 :: rest) Post:=
 ⟨h.1,h.2.1,fun cx w L vs hlay hn hv=>h.2.2 cx w L vs hlay (by simpa using hn) (fun x hx=>by
  have hget0:(bR 0 (aE.box t cells :: objs)).get 0=some (.box t cells):=by rw [iQ];rfl
  obtain ⟨g,h1,h2⟩:=(hv 0 x _ hx rfl).op_inv _ _ (cQ hget0);obtain ⟨g',cs,h3,_⟩:=hlay.objs 0 _ hget0;rw [h3] at h1 ⊢;cases h1;simpa using h2) (fun j x av hx hav=>O9 (hv (j+1) x av hx (by simpa using hav)) (xL.1 hro av (p0 hav)))⟩
theorem Ij {u:Option (Nat × List Nat)} {P:Program} {st:aj} {f:FuncId} {K:AV -> aj -> Prop} {t:TypeId} {cells:List AV} {objs:List aE} {args avs:List AV} {Post:AV -> List AV -> List aE -> Prop} {b:Nat} (ids:List Nat) (h:IM P f t cells objs args Post) (he:avs=AV.renL (b :: ids) args)
  (hb:st.tab.get b=some (.box t (AV.renL (b :: ids) cells))) (ho:sZ st.tab ids objs) (hd:(b :: ids).Nodup) (hu:∀ p,u=some p -> ∀ id ∈ b :: ids,fO p.1 p.2 id)
  (hk:∀ av cells' objs',Post av cells' objs' -> K av { st with tab:=iU st b ids t cells' objs',next:=st.next+objs'.length }):gy u P st f avs K:=
 .inr (.inr (.inl ⟨t,cells,objs,args,Post,b,ids,h,he,hb,ho,hd,hu,hk⟩))
theorem ll {u:Option (Nat × List Nat)} {P:Program} {st:aj} {g:FuncId} {args:List AV} {K:AV -> aj -> Prop} {R:cM} (ids:List Nat) (hl:AV.ltL st.next args) (hu:∀ p,u=some p -> ∀ id ∈ ids,fO p.1 p.2 id) (h:aw P g ((iw st ids args).map (gt (fL st ids).tab)) R) (ho:dJ (iw st ids args) \/ (R.r.plain /\ R.tab.plain))
  (hk:K (R.r.shift (fL st ids).next) { fL st ids with tab:=R.tab.shift (fL st ids).next ++ (fL st ids).tab,next:=(fL st ids).next+R.n }):gy u P st g args K:=
 .inr (.inr (.inr ⟨ids,hl,hu,_,h,fun R' hR=>by subst hR;exact ⟨ho,hk⟩⟩))
theorem DP {u:Option (Nat × List Nat)} {P:Program} {st:aj} {f:FuncId} {K:AV -> aj -> Prop} {t:TypeId} {cells:List AV} {objs:List aE} {rest:List AV} {Post:AV -> List AV -> List aE -> Prop} {b:Nat} (ids:List Nat) (h:En P f t cells objs rest Post) (hro:dJ rest)
  (hb:st.tab.get b=some (.box t (AV.renL (b :: ids) cells))) (ho:sZ st.tab ids objs) (hd:(b :: ids).Nodup) (hu:∀ p,u=some p -> ∀ id ∈ b :: ids,fO p.1 p.2 id)
  (hk:∀ av cells' objs',Post av cells' objs' -> K av { st with tab:=iU st b ids t cells' objs',next:=st.next+objs'.length }):gy u P st f (.op b 0 0 :: rest) K:=
 Ij ids (h.toA hro) (by show _=AV.ren _ (.op 0 0 0) :: AV.renL _ rest;rw [DW _ hro];rfl) hb ho hd hu hk
theorem lj {P:Program} {st:aj} {f:FuncId} {avs:List AV} {K:AV -> aj -> Prop} (h:IV P st f avs K):gy none P st f avs K:=.inr (.inl ⟨rfl,.inl (.inr (.inr h))⟩)
end
section
deriving instance DecidableEq for ah
structure cY where
 op:Int
 a:Int
 b:Int
 x:ah
deriving DecidableEq
def qs:ah:=⟨0,0,0,0,0,0,0⟩
instance:Inhabited cY:=⟨⟨0,0,0,qs⟩⟩
def G7 (l:List cY) (i:Int):cY:=l.getD i.toNat default
def bw (l:List cY) (s:cY):List cY × Int:=
 if s.op=15 /\ (G7 l s.a).op=15 then (l,(G7 l s.a).a) else if s ∈ l then (l,(l.idxOf s:Int)) else (l ++ [s],l.length)
abbrev dw (a:Int):cY:=⟨15,a,0,qs⟩
abbrev ly (a b:Int):cY:=⟨16,a,b,qs⟩
abbrev G6 (a:Int):cY:=⟨20,a,0,qs⟩
abbrev uC (a b:Int):cY:=⟨26,a,b,qs⟩
abbrev DD (a:Int):cY:=⟨24,a,0,qs⟩
abbrev ti (x:ah):cY:=⟨x.op,0,0,x⟩
structure kE (l:List cY):Prop where
 nd:l.Nodup
 lt:∀ (i:Nat) (s:cY),l[i]? = some s -> (0<=s.a /\ (s.a<i \/ s.a=0)) /\ (0<=s.b /\ (s.b<i \/ s.b=0)) /\ (¬(1<=s.op /\ s.op<=14) -> s.a<i) /\ (1<=s.op /\ s.op<=14 -> s.x.op=s.op)
def CU (l:List cY) (s:cY):Prop:=(0<=s.a /\ (s.a<l.length \/ s.a=0)) /\ (0<=s.b /\ (s.b<l.length \/ s.b=0)) /\ (¬(1<=s.op /\ s.op<=14) -> s.a<l.length) /\ (1<=s.op /\ s.op<=14 -> s.x.op=s.op)
theorem xS {l:List cY} {i:Int} (h:0<=i) (hl:i<l.length):l[i.toNat]? = some (G7 l i):=by
 have:i.toNat<l.length:=by omega
 simp [G7,List.getD,this]
theorem S1 {l:List cY} {s:cY} (h:kE l) (hs:CU l s):kE (bw l s).1 /\ (0<=(bw l s).2 /\ (bw l s).2<(bw l s).1.length) /\ l <+: (bw l s).1 /\ (bw l s).1.length<=l.length+1:=by
 unfold bw;by_cases h1:s.op=15 /\ (G7 l s.a).op=15
 .rw [Vn h1];have h2:=hs.2.2.1 (by omega);have h3:=h.lt _ _ (xS hs.1.1 h2);have h4:=h3.2.2.1 (by omega);exact ⟨h,⟨h3.1.1,by simp only;omega⟩,XK,VR _⟩
 .rw [Vh h1];by_cases h2:s ∈ l
  .rw [Vn h2];have:=Xi h2;exact ⟨h,⟨by simp only;omega,by simp only;omega⟩,XK,VR _⟩
  .rw [Vh h2];refine ⟨⟨?_,fun i t hi=>?_⟩,⟨by simp only;omega,by simp only [Vi,Vy];omega⟩,XF _ _,by simp⟩
   .rw [Xp];refine ⟨h.nd,by simp,fun a ha b hb=>?_⟩;simp at hb;subst hb;exact fun e=>h2 (e ▸ ha)
   .simp only at hi;by_cases h3:i<l.length
    .rw [VM h3] at hi;exact h.lt i t hi
    .rw [VO (by omega)] at hi
     have h4:i - l.length=0:=by
      have:=(Vd.1 hi).1;simp at this;omega
     rw [h4] at hi;simp at hi;subst hi;have h5:i=l.length:=(by omega);subst h5;exact hs
abbrev nw (s:cY):List AV:=[eI s.op,eI s.a,eI s.b,eI s.x.op,eI s.x.la,eI s.x.ln,eI s.x.ra,eI s.x.rn,eI s.x.n,eI s.x.u]
def G1 (s:cY):List Value:=[.int .i64 s.op,.int .i64 s.a,.int .i64 s.b,.int .i64 s.x.op,.int .i64 s.x.la,.int .i64 s.x.ln,.int .i64 s.x.ra,.int .i64 s.x.rn,.int .i64 s.x.n,.int .i64 s.x.u]
def sw (s:cY):Value:=.agg (G1 s).toArray
theorem Ai {s t:cY} (h:sw s=sw t):s=t:=by
 obtain ⟨a,b,c,x⟩:=s;obtain ⟨a',b',c',x'⟩:=t;obtain ⟨x1,x2,x3,x4,x5,x6,x7⟩:=x;obtain ⟨y1,y2,y3,y4,y5,y6,y7⟩:=x';simp [sw,G1] at h;simp [h]
structure me (ents:List (Value × Value)) (l:List cY):Prop where
 of:∀ e ∈ ents,∃ (n:Nat) (s:cY),l[n]? = some s /\ e=(sw s,.int .i64 (n:Int))
 all:∀ (n:Nat) (s:cY),l[n]? = some s -> (sw s,Value.int .i64 (n:Int)) ∈ ents
theorem GM:me [] []:=⟨fun e he=>(by cases he),fun n s h=>(by simp at h)⟩
theorem vC {ents:List (Value × Value)} {l:List cY} {s:cY} {r:Option Value} (h:me ents l) (hn:l.Nodup) (hr:A9 ents (sw s) r):(s ∈ l /\ r=some (.int .i64 (l.idxOf s:Int))) \/ (s ∉ l /\ r=none):=by
 cases r with
 | some v=>
  left;obtain ⟨n,t,h1,h2⟩:=h.of _ hr;simp only [Prod.mk.injEq] at h2;have:=Ai h2.1;subst this;have hlt:=(Vd.1 h1).1;have hm:=p0 h1;refine ⟨hm,?_⟩;rw [h2.2]
  have h3:l[l.idxOf s]? = some s:=by
   rw [f4 (Xi hm),List.getElem_idxOf]
  have h4:=(List.getElem?_inj hlt hn).1 (h1.trans h3.symm);rw [<- h4]
 | none=>
  right;refine ⟨fun hm=>?_,rfl⟩;obtain ⟨n,hn'⟩:=V7 hm;exact hr _ (h.all n s hn') rfl
theorem uT {ents ents':List (Value × Value)} {l:List cY} {s:cY} (h:me ents l) (hs:s ∉ l) (hp:KJ ents (sw s) (.int .i64 (l.length:Int)) ents'):me ents' (l ++ [s]):=by
 rcases hp with ⟨j,o,h1,_⟩|⟨h1,rfl⟩
 .obtain ⟨n,t,h2,h3⟩:=h.of _ (p0 h1);simp only [Prod.mk.injEq] at h3;have:=Ai h3.1;subst this;exact absurd (p0 h2) hs
 .refine ⟨fun e he=>?_,fun n t hn=>?_⟩
  .rcases Vp.1 he with he | he
   .obtain ⟨n,t,h2,h3⟩:=h.of e he;exact ⟨n,t,by rw [VM (Vd.1 h2).1];exact h2,h3⟩
   .simp at he;exact ⟨l.length,s,by simp,he⟩
  .by_cases h3:n<l.length
   .rw [VM h3] at hn;exact List.mem_append_left _ (h.all n t hn)
   .have h4:=(Vd.1 hn).1;simp at h4;have h5:n=l.length:=(by omega);subst h5;simp at hn;subst hn;exact List.mem_append_right _ (by simp)
def cY.ok (s:cY):Prop:=aI s.op /\ aI s.a /\ aI s.b /\ s.x.ok
end
section
theorem mv:Maps.Keyed Tryz.prog 84:=Maps.Keyed.of_law (deep_law (m:=4) (by omega) (by kernel_rfl) (by kernel_rfl) (by kernel_rfl))
theorem Uy {n:Int} (h:aI n):(Lit.int .i64 n).wf=true:=by
 unfold aI at h;have h1:IntKind.min .i64 = -9223372036854775808:=by rfl
 have h2:IntKind.max .i64=9223372036854775807:=by rfl
 simp [Lit.wf,h1,h2];omega
theorem nD (d:Nat) {n:Int} (h:aI n):Tryz.prog.keyLits (d+1) 3 [.int .i64 n]=some [.int .i64 n]:=by
 have hu:Tryz.prog.underlying 3=some (.int .i64):=by kernel_rfl
 simp [Program.keyLits,hu,Uy h]
theorem pI {P : Program} {d t : Nat} {cs : List Value} {fs : Array Field} (hu : P.underlying t = some (.struct fs)) (hl : cs.length = P.cellsOf t) (ha : fs.all (fun f => f.name != "_") = true) :
  P.keyLits (d+1) t cs=(fs.toList.mapM fun f=>P.keyLits d f.type ((cs.drop f.offset).take (P.cellsOf f.type))).map List.flatten:=by
 simp only [Program.keyLits,hu];rw [Vn ⟨hl,ha⟩]
theorem Nw (d:Nat) {n:Int} (h:aI n):Tryz.prog.keyLits (d+1) 2 [.int .i64 n]=some [.int .i64 n]:=by
 have hu:Tryz.prog.underlying 2=some (.int .i64):=by kernel_rfl
 simp [Program.keyLits,hu,Uy h]
theorem Dr (d:Nat) {a b:Int} (ha:aI a) (hb:aI b):Tryz.prog.keyLits (d+2) 59 [.int .i64 a,.int .i64 b]=some [.int .i64 a,.int .i64 b]:=by
 have hi:Tryz.prog.cellsOf 3=1:=by kernel_rfl
 have hi2:Tryz.prog.cellsOf 2=1:=by kernel_rfl
 have hc:Tryz.prog.cellsOf 59=2:=by kernel_rfl
 rw [pI Tryz.underlying59 (by rw [hc];rfl) (by kernel_rfl)];simp [hi,hi2,nD d ha,Nw d hb]
theorem NA (d:Nat) {x:ah} (h:x.ok):Tryz.prog.keyLits (d+3) 61 [.int .i64 x.op,.int .i64 x.la,.int .i64 x.ln,.int .i64 x.ra,.int .i64 x.rn,.int .i64 x.n,.int .i64 x.u]=some [.int .i64 x.op,.int .i64 x.la,.int .i64 x.ln,.int .i64 x.ra,.int .i64 x.rn,.int .i64 x.n,.int .i64 x.u]:=by
 have hc:Tryz.prog.cellsOf 61=7:=by kernel_rfl
 have hc2:Tryz.prog.cellsOf 59=2:=by kernel_rfl
 have hi:Tryz.prog.cellsOf 3=1:=by kernel_rfl
 obtain ⟨g1,g2,g3,g4,g5,g6,g7⟩:=h;rw [pI Tryz.underlying61 (by rw [hc];rfl) (by kernel_rfl)];simp [hi,hc2,nD (d+1) g1,Dr d g2 g3,Dr d g4 g5,nD (d+1) g6,nD (d+1) g7]
theorem SA (d:Nat) {s:cY} (h:s.ok):Tryz.prog.keyLits (d+4) 84 (G1 s)=some [.int .i64 s.op,.int .i64 s.a,.int .i64 s.b,.int .i64 s.x.op,.int .i64 s.x.la,.int .i64 s.x.ln,.int .i64 s.x.ra,.int .i64 s.x.rn,.int .i64 s.x.n,.int .i64 s.x.u]:=by
 have hc:Tryz.prog.cellsOf 84=10:=by kernel_rfl
 have hc7:Tryz.prog.cellsOf 61=7:=by kernel_rfl
 have hi:Tryz.prog.cellsOf 3=1:=by kernel_rfl
 obtain ⟨g1,g2,g3,g4⟩:=h;have k:=NA d g4;rw [pI Tryz.underlying84 (by rw [hc];rfl) (by kernel_rfl)];simp [hi,hc7,nD (d+2) g1,nD (d+2) g2,nD (d+2) g3,G1,k]
theorem ju {s:cY} (h:s.ok):xy Tryz.prog 84 (sw s):=by
 have hu:=Tryz.underlying84;have h1:Tryz.prog.keyType 84=true:=by kernel_rfl
 have hc:Tryz.prog.cellsOf 84=10:=by kernel_rfl
 obtain ⟨d,hd⟩:∃ d,Tryz.prog.types.size+1=d+4:=⟨Tryz.prog.types.size - 3,by kernel_rfl⟩;have h2:(sw s).formed Tryz.prog 84=true:=by simp [sw,Value.formed,hu,hc,G1]
 have h3:(sw s).cells.toList=G1 s:=rfl;unfold xy keyOf;rw [hu];simp only [h1,h2,Bool.and_true,if_true,h3,hd,SA d h];exact ⟨_,rfl⟩
end
section
abbrev Hh:List AV:=[.osl 1,.osl 2,.osl 3]
abbrev oL (l:List cY):aE:=.row 84 10 (l.map nw)
abbrev oR (r:List Int):aE:=.row 3 1 (r.map fun x=>[eI x])
abbrev qG (l:List cY) (ents:List (Value × Value)) (r:List Int):List aE:=[oL l,.map ents,oR r]
def Js (l':List cY) (r':List Int) (v:Int) (av:AV) (cells':List AV) (objs':List aE):Prop:=av=eI v /\ cells'=Hh /\ ∃ ents',me ents' l' /\ objs'=qG l' ents' r'
def FA (P:Program) (f:FuncId) (rest:List AV) (l:List cY) (r:List Int) (l':List cY) (r':List Int) (v:Int):Prop:=
 ∀ ents,me ents l -> En P f 119 Hh (qG l ents r) rest (Js l' r' v)
theorem qh (s:cY) (l:List cY) (r:List Int) (hs:s.ok) (hl:kE l) (hm:CU l s) (hall:∀ t ∈ l,t.ok) (hlen:l.length<=100000):FA Tryz.prog 89 [.agg (nw s)] l r (bw l s).1 r (bw l s).2:=by
 intro ents hme;refine bS ag Tryz.func89 rfl (by decide) Tryz.ntmps89 Tryz.results89 rfl (by kernel_rfl) (by simp [AV.ltL,AV.lt]) (by simp [bQ]) ?_;have n0:(0:Int)<=s.a:=hm.1.1;by_cases h:s.op=15 /\ (G7 l s.a).op=15
 .obtain ⟨h15,h16⟩:=h;have e15:(s.op == 15)=true:=by simp [h15]
  have e16:((G7 l s.a).op == 15)=true:=by simp [h16]
  have na:=hm.2.2.1 (by omega);have na2:s.a.toNat<l.length:=by omega
  have hrow:(List.map nw l)[s.a.toNat]?.getD []=nw (G7 l s.a):=by
   have:=xS n0 na;rw [Ve,this];rfl
  have hF:bw l s=(l,(G7 l s.a).a):=by rw [bw,Vn ⟨h15,h16⟩]
  rw [hF]
  repeat' first|refine go ?_|simp only [bR,n0,e15]|decide|refine sp ?_ ?_<;>intro _
  refine aA (by kernel_rfl) ?_
  repeat' first|refine go ?_|simp only [bR,n0,e15,e16,na,na2,hrow]|decide|refine sp ?_ ?_<;>intro _
  refine aA (by kernel_rfl) ?_
  repeat' first|refine go ?_|simp only [bR,n0,e15,e16,na,na2,hrow]|decide|refine sp ?_ ?_<;>intro _
  exact ⟨Hh,qG l ents r,⟨rfl,rfl,ents,hme,rfl⟩,trivial,⟨rfl,by simp [AV.ltL,AV.lt],by simp [bQ]⟩,(wS [0,1,2,3] (kf @bR.eq_1 @bR.eq_2))⟩
 .have hF:bw l s=if s ∈ l then (l,(l.idxOf s:Int)) else (l ++ [s],(l.length:Int)):=by rw [bw,Vh h]
  have key:((s.op == 15)=true /\ ((G7 l s.a).op == 15)=false /\ s.a<l.length /\ s.a.toNat<l.length /\ (List.map nw l)[s.a.toNat]?.getD []=nw (G7 l s.a)) \/ (s.op == 15)=false:=by
   by_cases h15:s.op=15
   .left;have na:=hm.2.2.1 (by omega);refine ⟨by simp [h15],by simpa using fun e=>h ⟨h15,e⟩,na,by omega,?_⟩;have:=xS n0 na;rw [Ve,this];rfl
   .right;simp [h15]
  rw [hF];rcases key with ⟨e15,e16,na,na2,hrow⟩|e15
  .repeat' first|refine go ?_|simp only [bR,n0,e15]|decide|refine sp ?_ ?_<;>intro _
   refine aA (by kernel_rfl) ?_
   repeat' first|refine go ?_|simp only [bR,n0,e15,e16,na,na2,hrow]|decide|refine sp ?_ ?_<;>intro _
   refine ap [] [0,1,2,3,4] (.exec 5 (.take 6 (.take 7 (.take 8 (.exec 9 (.exec 10 .done)))))) (by kernel_rfl) (by simp [ae.gc]) ?_
   repeat' first|refine go ?_|decide|refine sp ?_ ?_<;>intro _
   refine ⟨⟨mv,ju hs,fun e he=>?_⟩,fun q hq=>?_⟩
   .obtain ⟨n,t,h1,rfl⟩:=hme.of e he;exact ju (hall t (p0 h1))
   rcases vC hme hl.nd hq with ⟨hin,rfl⟩|⟨hin,rfl⟩
   .rw [Vn hin]
    repeat' first|refine go ?_|decide|refine sp ?_ ?_<;>intro _
    exact ⟨Hh,qG l ents r,⟨rfl,rfl,ents,hme,rfl⟩,trivial,⟨rfl,by simp [AV.ltL,AV.lt],by simp [bQ]⟩,(wS [0,1,2,3] (kf @bR.eq_1 @bR.eq_2))⟩
   .rw [Vh hin]
    repeat' first|refine go ?_|decide|refine sp ?_ ?_<;>intro _
    refine ap [0,1] [0,1,2,3,5] (.two 4 (.exec 6 (.exec 7 (.take 8 (.take 9 (.exec 10 .done))))) 6 (.exec 4 (.exec 7 (.take 8 (.take 9 (.exec 10 .done)))))) (by kernel_rfl) (by simp [ae.gc]) ?_
    repeat' first|refine go ?_|decide|refine sp ?_ ?_<;>intro _
    refine ⟨⟨rfl,⟨by omega,by omega⟩,?_⟩,rfl,⟨by omega,by omega⟩,?_⟩
    all_goals
     refine ap [2] [0,1,2,3,4,5] (.exec 6 .done) (by kernel_rfl) (by simp [ae.gc]) ?_
     repeat' first|refine go ?_|decide|refine sp ?_ ?_<;>intro _
     refine ⟨⟨mv,ju hs,fun e he=>?_⟩,fun ents' hp=>?_⟩
     .obtain ⟨n,t,h1,rfl⟩:=hme.of e he;exact ju (hall t (p0 h1))
     repeat' first|refine go ?_|decide|refine sp ?_ ?_<;>intro _
     exact ⟨Hh,qG (l ++ [s]) ents' r,⟨rfl,rfl,ents',uT hme hin hp,rfl⟩,trivial,⟨rfl,by simp [AV.ltL,AV.lt],by simp [bQ]⟩,(wS [0,6,2,3] (kf @bR.eq_1 @bR.eq_2))⟩
  .repeat' first|refine go ?_|simp only [bR,n0,e15]|decide|refine sp ?_ ?_<;>intro _
   refine aA (by kernel_rfl) ?_
   repeat' first|refine go ?_|simp only [bR,n0,e15]|decide|refine sp ?_ ?_<;>intro _
   refine ap [] [0,1,2,3,4] (.exec 5 (.take 6 (.take 7 (.take 8 (.exec 9 (.exec 10 .done)))))) (by kernel_rfl) (by simp [ae.gc]) ?_
   repeat' first|refine go ?_|decide|refine sp ?_ ?_<;>intro _
   refine ⟨⟨mv,ju hs,fun e he=>?_⟩,fun q hq=>?_⟩
   .obtain ⟨n,t,h1,rfl⟩:=hme.of e he;exact ju (hall t (p0 h1))
   rcases vC hme hl.nd hq with ⟨hin,rfl⟩|⟨hin,rfl⟩
   .rw [Vn hin]
    repeat' first|refine go ?_|decide|refine sp ?_ ?_<;>intro _
    exact ⟨Hh,qG l ents r,⟨rfl,rfl,ents,hme,rfl⟩,trivial,⟨rfl,by simp [AV.ltL,AV.lt],by simp [bQ]⟩,(wS [0,1,2,3] (kf @bR.eq_1 @bR.eq_2))⟩
   .rw [Vh hin]
    repeat' first|refine go ?_|decide|refine sp ?_ ?_<;>intro _
    refine ap [0,1] [0,1,2,3,5] (.two 4 (.exec 6 (.exec 7 (.take 8 (.take 9 (.exec 10 .done))))) 6 (.exec 4 (.exec 7 (.take 8 (.take 9 (.exec 10 .done)))))) (by kernel_rfl) (by simp [ae.gc]) ?_
    repeat' first|refine go ?_|decide|refine sp ?_ ?_<;>intro _
    refine ⟨⟨rfl,⟨by omega,by omega⟩,?_⟩,rfl,⟨by omega,by omega⟩,?_⟩
    all_goals
     refine ap [2] [0,1,2,3,4,5] (.exec 6 .done) (by kernel_rfl) (by simp [ae.gc]) ?_
     repeat' first|refine go ?_|decide|refine sp ?_ ?_<;>intro _
     refine ⟨⟨mv,ju hs,fun e he=>?_⟩,fun ents' hp=>?_⟩
     .obtain ⟨n,t,h1,rfl⟩:=hme.of e he;exact ju (hall t (p0 h1))
     repeat' first|refine go ?_|decide|refine sp ?_ ?_<;>intro _
     exact ⟨Hh,qG (l ++ [s]) ents' r,⟨rfl,rfl,ents',uT hme hin hp,rfl⟩,trivial,⟨rfl,by simp [AV.ltL,AV.lt],by simp [bQ]⟩,(wS [0,6,2,3] (kf @bR.eq_1 @bR.eq_2))⟩
end
end
section
section
abbrev Mk:=List cY × Int
def AE (l:List cY) (a b:Int):Mk:=
 let p1:=bw l (dw b)
 let p2:=bw p1.1 (dw a)
 let p3:=bw p2.1 (ly p2.2 p1.2)
 let p4:=bw p3.1 (uC p1.2 p3.2)
 let p5:=bw p4.1 (dw p4.2)
 let p6:=bw p5.1 (DD p1.2)
 let p7:=bw p6.1 (dw p6.2)
 bw p7.1 (ly p5.2 p7.2)
abbrev dy:ah:=⟨1,0,0,0,0,0,0⟩
def jh (l:List cY) (op a:Int):Mk:=
 if (op == 19)=true then
  let p1:=bw l (dw a)
  let p2:=bw p1.1 (G6 p1.2)
  bw p2.1 (dw p2.2)
 else if (op == 20)=true then bw l (G6 a)
 else if (op == 21)=true then
  let p1:=bw l (dw a)
  let p2:=bw p1.1 (DD p1.2)
  bw p2.1 (dw p2.2)
 else if (op == 22)=true then
  let p1:=bw l (ti dy)
  bw p1.1 (uC p1.2 a)
 else if (op == 23)=true then
  let p1:=bw l (dw a)
  let p2:=bw p1.1 (ti dy)
  let p3:=bw p2.1 (uC p2.2 p1.2)
  bw p3.1 (dw p3.2)
 else if (op == 24)=true then bw l (DD a)
 else bw l (dw a)
def jl (l:List cY) (op a b:Int):Mk:=
 if (op == 17)=true then
  let p1:=bw l (dw a)
  let p2:=bw p1.1 (dw b)
  let p3:=bw p2.1 (ly p1.2 p2.2)
  bw p3.1 (dw p3.2)
 else if (op == 18)=true then
  let p1:=bw l (dw b)
  let p2:=bw p1.1 (ly a p1.2)
  bw p2.1 (dw p2.2)
 else if (op == 25)=true then AE l a b
 else if (op == 26)=true then bw l (uC a b)
 else bw l (ly a b)
structure el (n:Nat) (l:List cY):Prop where
 st:kE l
 ok:∀ t ∈ l,t.ok
 len:l.length<=n
 lim:n<=100000
structure In (l:List cY) (a:Int):Prop where
 ge:0<=a
 lt:a<l.length
theorem In.mono {l l':List cY} {a:Int} (h:In l a) (hp:l <+: l'):In l' a:=⟨h.ge,by have:=h.lt;have:=hp.length_le;omega⟩
theorem In.ok64 {n:Nat} {l:List cY} {a:Int} (h:In l a) (hg:el n l):aI a:=by
 have:=h.ge;have:=h.lt;have:=hg.len;have:=hg.lim;unfold aI;omega
structure kh (n:Nat) (l:List cY) (p:Mk):Prop where
 good:el n p.1
 isIn:In p.1 p.2
 pre:l <+: p.1
theorem mj {n:Nat} {l:List cY} {s:cY} (h:el n l) (hm:CU l s) (hs:s.ok) (hn:n<100000):kh (n+1) l (bw l s):=by
 obtain ⟨h1,h2,h3,h4⟩:=S1 h.st hm;have:=h.len;refine ⟨⟨h1,fun t ht=>?_,by omega,hn⟩,⟨h2.1,h2.2⟩,h3⟩;unfold bw at ht;split at ht
 .exact h.ok t ht
 .split at ht
  .exact h.ok t ht
  .rcases Vp.1 ht with ht | ht
   .exact h.ok t ht
   .simp at ht;rw [ht];exact hs
theorem lW:qs.ok:=by simp [ah.ok,qs,aI]
theorem iR:dy.ok:=by simp [ah.ok,aI]
section
variable {n:Nat} {l:List cY} {a b:Int}
theorem oz {op:Int} {x:ah} (ha:In l a) (h:¬(1<=op /\ op<=14):=by decide):CU l ⟨op,a,0,x⟩:=⟨⟨ha.ge,.inl ha.lt⟩,⟨Xn 0,.inr rfl⟩,fun _=>ha.lt,fun e=>absurd e h⟩
theorem uO {op:Int} {x:ah} (ha:In l a) (hb:In l b) (h:¬(1<=op /\ op<=14):=by decide):CU l ⟨op,a,b,x⟩:=⟨⟨ha.ge,.inl ha.lt⟩,⟨hb.ge,.inl hb.lt⟩,fun _=>ha.lt,fun e=>absurd e h⟩
theorem LW {x:ah} (hx:1<=x.op /\ x.op<=14):CU l (ti x):=⟨⟨Xn 0,.inr rfl⟩,⟨Xn 0,.inr rfl⟩,fun h=>absurd hx h,fun _=>rfl⟩
theorem Uo (hg:el n l) (ha:In l a):(dw a).ok:=⟨by simp [aI],ha.ok64 hg,by simp [aI],lW⟩
theorem UG (hg:el n l) (ha:In l a):(G6 a).ok:=⟨by simp [aI],ha.ok64 hg,by simp [aI],lW⟩
theorem Uh (hg:el n l) (ha:In l a):(DD a).ok:=⟨by simp [aI],ha.ok64 hg,by simp [aI],lW⟩
theorem UB (hg:el n l) (ha:In l a) (hb:In l b):(ly a b).ok:=⟨by simp [aI],ha.ok64 hg,hb.ok64 hg,lW⟩
theorem Ud (hg:el n l) (ha:In l a) (hb:In l b):(uC a b).ok:=⟨by simp [aI],ha.ok64 hg,hb.ok64 hg,lW⟩
theorem Ua {x:ah} (hx:x.ok):(ti x).ok:=⟨hx.1,by simp [aI],by simp [aI],hx⟩
theorem mt (hg:el n l) (ha:In l a) (hn:n<100000):kh (n+1) l (bw l (dw a)):=mj hg (oz ha) (Uo hg ha) hn
theorem UJ (hg:el n l) (ha:In l a) (hn:n<100000):kh (n+1) l (bw l (G6 a)):=mj hg (oz ha) (UG hg ha) hn
theorem RQ (hg:el n l) (ha:In l a) (hn:n<100000):kh (n+1) l (bw l (DD a)):=mj hg (oz ha) (Uh hg ha) hn
theorem G8 (hg:el n l) (ha:In l a) (hb:In l b) (hn:n<100000):kh (n+1) l (bw l (ly a b)):=mj hg (uO ha hb) (UB hg ha hb) hn
theorem Pc (hg:el n l) (ha:In l a) (hb:In l b) (hn:n<100000):kh (n+1) l (bw l (uC a b)):=mj hg (uO ha hb) (Ud hg ha hb) hn
theorem Pm {x:ah} (hg:el n l) (hx:x.ok) (h15:1<=x.op /\ x.op<=14) (hn:n<100000):kh (n+1) l (bw l (ti x)):=mj hg (LW h15) (Ua hx) hn
end
theorem bu {P:Program} {u:Option (Nat × List Nat)} {st:aj} {f:FuncId} {K:AV -> aj -> Prop} {rest:List AV} {l l':List cY} {r r':List Int} {v:Int} {b i j k:Nat} {ents:List (Value × Value)} (h:FA P f rest l r l' r' v) (hme:me ents l) (hro:dJ rest)
  (hb:st.tab.get b=some (.box 119 [.osl i,.osl j,.osl k])) (hi:st.tab.get i=some (oL l)) (hj:st.tab.get j=some (.map ents)) (hk:st.tab.get k=some (oR r)) (hd:[b,i,j,k].Nodup) (hu:∀ p,u=some p -> ∀ id ∈ [b,i,j,k],fO p.1 p.2 id)
  (hK:∀ ents',me ents' l' -> K (eI v) { st with tab:=(b,some (.box 119 [.osl st.next,.osl (st.next+1),.osl (st.next+2)])) :: (st.next,some (oL l')) :: (st.next+1,some (.map ents')) :: (st.next+2,some (oR r')) :: (i,none) :: (j,none) :: (k,none) :: st.tab,next:=st.next+3 }) :
  gy u P st f (.op b 0 0 :: rest) K:=by
 refine DP [i,j,k] (h ents hme) hro (by rw [hb];simp [AV.renL,AV.ren]) ⟨⟨hi,trivial⟩,⟨hj,trivial⟩,⟨hk,trivial⟩,trivial⟩ hd hu ?_;rintro av cells' objs' ⟨rfl,rfl,ents',hme',rfl⟩;have:=hK ents' hme';simpa [iU,bR,AV.renL,AV.ren,List.range'] using this
theorem dE {P:Program} {rs:List ResultVar} {l:List cY} {r:List Int} {v:Int} {st:aj} {ents:List (Value × Value)} (hme:me ents l) (hw:dC st ⟨st.n,[(0,.op 0 0 0)],[(0,some (.box 119 Hh)),(1,some (oL l)),(2,some (.map ents)),(3,some (oR r))],4⟩) :
  ∃ cells' objs',Js l r v (eI v) cells' objs' /\ eU (eI v) /\ (cells'.length=3 /\ AV.ltL (objs'.length+1) cells' /\ ∀ o ∈ objs',bQ o) /\ dC st ⟨st.n,[(0,.op 0 0 0)],bR 0 (.box 119 cells' :: objs'),objs'.length+1⟩:=
 ⟨Hh,qG l ents r,⟨rfl,rfl,ents,hme,rfl⟩,trivial,⟨rfl,by simp [AV.ltL,AV.lt],by simp [bQ]⟩,hw⟩
theorem iD {n:Nat} {l:List cY} {a:Int} (r:List Int) (hg:el n l) (ha:In l a):FA Tryz.prog 82 [eI a] l r (bw l (dw a)).1 r (bw l (dw a)).2:=by
 intro ents hme;refine bS ag Tryz.func82 rfl (by decide) Tryz.ntmps82 Tryz.results82 rfl (by kernel_rfl) (by simp [AV.ltL,AV.lt]) (by simp [bQ]) ?_
 repeat' first|refine go ?_|simp only [bR]|decide|refine sp ?_ ?_<;>intro _
 refine bu (qh (dw a) l r (Uo hg ha) hg.st (oz ha) hg.ok (Vz hg.len hg.lim)) hme (by simp [dJ,eU,aM,aU]) rfl rfl rfl rfl (by decide) (fun p hp=>by cases hp) fun ents' hme'=>?_
 repeat' first|refine go ?_|decide|refine sp ?_ ?_<;>intro _
 exact dE (P:=Tryz.prog) (rs:=[]) hme' (wR [0,4,5,6])
theorem Li {n:Nat} {l:List cY} {a:Int} (r:List Int) (hg:el n l) (ha:In l a):FA Tryz.prog 83 [eI a] l r (bw l (G6 a)).1 r (bw l (G6 a)).2:=by
 intro ents hme;refine bS ag Tryz.func83 rfl (by decide) Tryz.ntmps83 Tryz.results83 rfl (by kernel_rfl) (by simp [AV.ltL,AV.lt]) (by simp [bQ]) ?_
 repeat' first|refine go ?_|simp only [bR]|decide|refine sp ?_ ?_<;>intro _
 refine bu (qh (G6 a) l r (UG hg ha) hg.st (oz ha) hg.ok (Vz hg.len hg.lim)) (by assumption) (by simp [dJ,eU,aM,aU]) rfl rfl rfl rfl (by decide) (fun p hp=>by cases hp) fun ents' hme'=>?_
 repeat' first|refine go ?_|decide|refine sp ?_ ?_<;>intro _
 exact dE (P:=Tryz.prog) (rs:=[]) hme' (wR [0,4,5,6])
theorem B8 {n:Nat} {l:List cY} {a:Int} (r:List Int) (hg:el n l) (ha:In l a):FA Tryz.prog 84 [eI a] l r (bw l (DD a)).1 r (bw l (DD a)).2:=by
 intro ents hme;refine bS ag Tryz.func84 rfl (by decide) Tryz.ntmps84 Tryz.results84 rfl (by kernel_rfl) (by simp [AV.ltL,AV.lt]) (by simp [bQ]) ?_
 repeat' first|refine go ?_|simp only [bR]|decide|refine sp ?_ ?_<;>intro _
 refine bu (qh (DD a) l r (Uh hg ha) hg.st (oz ha) hg.ok (Vz hg.len hg.lim)) (by assumption) (by simp [dJ,eU,aM,aU]) rfl rfl rfl rfl (by decide) (fun p hp=>by cases hp) fun ents' hme'=>?_
 repeat' first|refine go ?_|decide|refine sp ?_ ?_<;>intro _
 exact dE (P:=Tryz.prog) (rs:=[]) hme' (wR [0,4,5,6])
theorem zV {n:Nat} {l:List cY} {a b:Int} (r:List Int) (hg:el n l) (ha:In l a) (hb:In l b):FA Tryz.prog 87 [eI a,eI b] l r (bw l (ly a b)).1 r (bw l (ly a b)).2:=by
 intro ents hme;refine bS ag Tryz.func87 rfl (by decide) Tryz.ntmps87 Tryz.results87 rfl (by kernel_rfl) (by simp [AV.ltL,AV.lt]) (by simp [bQ]) ?_
 repeat' first|refine go ?_|simp only [bR]|decide|refine sp ?_ ?_<;>intro _
 refine bu (qh (ly a b) l r (UB hg ha hb) hg.st (uO ha hb) hg.ok (Vz hg.len hg.lim)) (by assumption) (by simp [dJ,eU,aM,aU]) rfl rfl rfl rfl (by decide) (fun p hp=>by cases hp) fun ents' hme'=>?_
 repeat' first|refine go ?_|decide|refine sp ?_ ?_<;>intro _
 exact dE (P:=Tryz.prog) (rs:=[]) hme' (wR [0,4,5,6])
theorem rr {n:Nat} {l:List cY} {a b:Int} (r:List Int) (hg:el n l) (ha:In l a) (hb:In l b):FA Tryz.prog 85 [eI a,eI b] l r (bw l (uC a b)).1 r (bw l (uC a b)).2:=by
 intro ents hme;refine bS ag Tryz.func85 rfl (by decide) Tryz.ntmps85 Tryz.results85 rfl (by kernel_rfl) (by simp [AV.ltL,AV.lt]) (by simp [bQ]) ?_
 repeat' first|refine go ?_|simp only [bR]|decide|refine sp ?_ ?_<;>intro _
 refine bu (qh (uC a b) l r (Ud hg ha hb) hg.st (uO ha hb) hg.ok (Vz hg.len hg.lim)) (by assumption) (by simp [dJ,eU,aM,aU]) rfl rfl rfl rfl (by decide) (fun p hp=>by cases hp) fun ents' hme'=>?_
 repeat' first|refine go ?_|decide|refine sp ?_ ?_<;>intro _
 exact dE (P:=Tryz.prog) (rs:=[]) hme' (wR [0,4,5,6])
theorem I4 {n:Nat} {l:List cY} {x:ah} (r:List Int) (hg:el n l) (hx:x.ok) (h15:1<=x.op /\ x.op<=14):FA Tryz.prog 41 [.agg (bX x)] l r (bw l (ti x)).1 r (bw l (ti x)).2:=by
 intro ents hme;refine bS ag Tryz.func41 rfl (by decide) Tryz.ntmps41 Tryz.results41 rfl (by kernel_rfl) (by simp [AV.ltL,AV.lt]) (by simp [bQ]) ?_
 repeat' first|refine go ?_|simp only [bR]|decide|refine sp ?_ ?_<;>intro _
 refine bu (qh (ti x) l r (Ua hx) hg.st (LW h15) hg.ok (Vz hg.len hg.lim)) (by assumption) (by simp [dJ,eU,aM,aU]) rfl rfl rfl rfl (by decide) (fun p hp=>by cases hp) fun ents' hme'=>?_
 repeat' first|refine go ?_|decide|refine sp ?_ ?_<;>intro _
 exact dE (P:=Tryz.prog) (rs:=[]) hme' (wR [0,5,6,7])
theorem AZ {n:Nat} {l:List cY} (r:List Int) (hg:el n l):FA Tryz.prog 86 [] l r (bw l (ti dy)).1 r (bw l (ti dy)).2:=by
 intro ents hme;refine bS ag Tryz.func86 rfl (by decide) Tryz.ntmps86 Tryz.results86 rfl (by kernel_rfl) (by simp [AV.ltL,AV.lt]) (by simp [bQ]) ?_
 repeat' first|refine go ?_|simp only [bR]|decide|refine sp ?_ ?_<;>intro _
 refine bu (I4 (x:=dy) r hg iR (by decide)) (by assumption) (by simp [dJ,eU,aM,aU]) rfl rfl rfl rfl (by decide) (fun p hp=>by cases hp) fun ents' hme'=>?_
 repeat' first|refine go ?_|decide|refine sp ?_ ?_<;>intro _
 exact dE (P:=Tryz.prog) (rs:=[]) hme' (wR [0,4,5,6])
theorem TR {n:Nat} {l:List cY} {a b:Int} (hg:el n l) (ha:In l a) (hb:In l b) (hn:n+8<=100000):kh (n+8) l (AE l a b):=by
 have m1:=mt hg hb (by omega);have m2:=mt m1.good (ha.mono m1.pre) (by omega);have m3:=G8 m2.good m2.isIn (m1.isIn.mono m2.pre) (by omega);have m4:=Pc m3.good ((m1.isIn.mono m2.pre).mono m3.pre) m3.isIn (by omega);have m5:=mt m4.good m4.isIn (by omega);have m6:=RQ m5.good ((((m1.isIn.mono m2.pre).mono m3.pre).mono m4.pre).mono m5.pre) (by omega);have m7:=mt m6.good m6.isIn (by omega);have m8:=G8 m7.good ((m5.isIn.mono m6.pre).mono m7.pre) m7.isIn (by omega);exact ⟨m8.good,m8.isIn,((((((m1.pre.trans m2.pre).trans m3.pre).trans m4.pre).trans m5.pre).trans m6.pre).trans m7.pre).trans m8.pre⟩
theorem Ug {n:Nat} {l:List cY} {a b:Int} (r:List Int) (hg:el n l) (ha:In l a) (hb:In l b) (hn:n+8<=100000):FA Tryz.prog 88 [eI a,eI b] l r (AE l a b).1 r (AE l a b).2:=by
 have m1:=mt hg hb (by omega);have m2:=mt m1.good (ha.mono m1.pre) (by omega);have m3:=G8 m2.good m2.isIn (m1.isIn.mono m2.pre) (by omega);have m4:=Pc m3.good ((m1.isIn.mono m2.pre).mono m3.pre) m3.isIn (by omega);have m5:=mt m4.good m4.isIn (by omega);have m6:=RQ m5.good ((((m1.isIn.mono m2.pre).mono m3.pre).mono m4.pre).mono m5.pre) (by omega);have m7:=mt m6.good m6.isIn (by omega);have m8:=G8 m7.good ((m5.isIn.mono m6.pre).mono m7.pre) m7.isIn (by omega);simp only [AE];intro ents hme;refine bS ag Tryz.func88 rfl (by decide) Tryz.ntmps88 Tryz.results88 rfl (by kernel_rfl) (by simp [AV.ltL,AV.lt]) (by simp [bQ]) ?_
 repeat' first|refine go ?_|simp only [bR]|decide|refine sp ?_ ?_<;>intro _
 refine bu (iD r hg hb) (by assumption) (by simp [dJ,eU,aM,aU]) rfl rfl rfl rfl (by decide) (fun p hp=>by cases hp) fun ents' hme'=>?_
 repeat' first|refine go ?_|decide|refine sp ?_ ?_<;>intro _
 refine bu (iD r m1.good (ha.mono m1.pre)) (by assumption) (by simp [dJ,eU,aM,aU]) rfl rfl rfl rfl (by decide) (fun p hp=>by cases hp) fun ents' hme'=>?_
 repeat' first|refine go ?_|decide|refine sp ?_ ?_<;>intro _
 refine bu (zV r m2.good m2.isIn (m1.isIn.mono m2.pre)) (by assumption) (by simp [dJ,eU,aM,aU]) rfl rfl rfl rfl (by decide) (fun p hp=>by cases hp) fun ents' hme'=>?_
 repeat' first|refine go ?_|decide|refine sp ?_ ?_<;>intro _
 refine bu (rr r m3.good ((m1.isIn.mono m2.pre).mono m3.pre) m3.isIn) (by assumption) (by simp [dJ,eU,aM,aU]) rfl rfl rfl rfl (by decide) (fun p hp=>by cases hp) fun ents' hme'=>?_
 repeat' first|refine go ?_|decide|refine sp ?_ ?_<;>intro _
 refine bu (iD r m4.good m4.isIn) (by assumption) (by simp [dJ,eU,aM,aU]) rfl rfl rfl rfl (by decide) (fun p hp=>by cases hp) fun ents' hme'=>?_
 repeat' first|refine go ?_|decide|refine sp ?_ ?_<;>intro _
 refine bu (B8 r m5.good ((((m1.isIn.mono m2.pre).mono m3.pre).mono m4.pre).mono m5.pre)) (by assumption) (by simp [dJ,eU,aM,aU]) rfl rfl rfl rfl (by decide) (fun p hp=>by cases hp) fun ents' hme'=>?_
 repeat' first|refine go ?_|decide|refine sp ?_ ?_<;>intro _
 refine bu (iD r m6.good m6.isIn) (by assumption) (by simp [dJ,eU,aM,aU]) rfl rfl rfl rfl (by decide) (fun p hp=>by cases hp) fun ents' hme'=>?_
 repeat' first|refine go ?_|decide|refine sp ?_ ?_<;>intro _
 refine bu (zV r m7.good ((m5.isIn.mono m6.pre).mono m7.pre) m7.isIn) (by assumption) (by simp [dJ,eU,aM,aU]) rfl rfl rfl rfl (by decide) (fun p hp=>by cases hp) fun ents' hme'=>?_
 repeat' first|refine go ?_|decide|refine sp ?_ ?_<;>intro _
 exact dE (P:=Tryz.prog) (rs:=[]) hme' (wR [0,25,26,27])
theorem UE {n:Nat} {l:List cY} {op a:Int} (r:List Int) (hg:el n l) (ha:In l a) (hn:n+8<=100000):FA Tryz.prog 38 [eI op,eI a] l r (jh l op a).1 r (jh l op a).2:=by
 intro ents hme;refine bS ag Tryz.func38 rfl (by decide) Tryz.ntmps38 Tryz.results38 rfl (by kernel_rfl) (by simp [AV.ltL,AV.lt]) (by simp [bQ]) ?_
 repeat' first|refine go ?_|simp only [bR]|decide|refine sp ?_ ?_<;>intro _
 .rename_i h1;have e:jh l op a=bw (bw (bw l (dw a)).1 (G6 (bw l (dw a)).2)).1 (dw (bw (bw l (dw a)).1 (G6 (bw l (dw a)).2)).2):=by simp [jh,h1]
  have m1:=mt hg ha (by omega);have m2:=UJ m1.good m1.isIn (by omega);rw [e];refine bu (iD r hg ha) (by assumption) (by simp [dJ,eU,aM,aU]) rfl rfl rfl rfl (by decide) (fun p hp=>by cases hp) fun ents' hme'=>?_
  repeat' first|refine go ?_|decide|refine sp ?_ ?_<;>intro _
  refine bu (Li r m1.good m1.isIn) (by assumption) (by simp [dJ,eU,aM,aU]) rfl rfl rfl rfl (by decide) (fun p hp=>by cases hp) fun ents' hme'=>?_
  repeat' first|refine go ?_|decide|refine sp ?_ ?_<;>intro _
  refine bu (iD r m2.good m2.isIn) (by assumption) (by simp [dJ,eU,aM,aU]) rfl rfl rfl rfl (by decide) (fun p hp=>by cases hp) fun ents' hme'=>?_
  repeat' first|refine go ?_|decide|refine sp ?_ ?_<;>intro _
  exact dE (P:=Tryz.prog) (rs:=[]) hme' (wR [0,10,11,12])
 .rename_i h1 h2;have e:jh l op a=bw l (G6 a):=by simp [jh,h1,h2]
  rw [e];refine bu (Li r hg ha) (by assumption) (by simp [dJ,eU,aM,aU]) rfl rfl rfl rfl (by decide) (fun p hp=>by cases hp) fun ents' hme'=>?_
  repeat' first|refine go ?_|decide|refine sp ?_ ?_<;>intro _
  exact dE (P:=Tryz.prog) (rs:=[]) hme' (wR [0,4,5,6])
 .rename_i h1 h2 h3;have e:jh l op a=bw (bw (bw l (dw a)).1 (DD (bw l (dw a)).2)).1 (dw (bw (bw l (dw a)).1 (DD (bw l (dw a)).2)).2):=by simp [jh,h1,h2,h3]
  have m1:=mt hg ha (by omega);have m2:=RQ m1.good m1.isIn (by omega);rw [e];refine bu (iD r hg ha) (by assumption) (by simp [dJ,eU,aM,aU]) rfl rfl rfl rfl (by decide) (fun p hp=>by cases hp) fun ents' hme'=>?_
  repeat' first|refine go ?_|decide|refine sp ?_ ?_<;>intro _
  refine bu (B8 r m1.good m1.isIn) (by assumption) (by simp [dJ,eU,aM,aU]) rfl rfl rfl rfl (by decide) (fun p hp=>by cases hp) fun ents' hme'=>?_
  repeat' first|refine go ?_|decide|refine sp ?_ ?_<;>intro _
  refine bu (iD r m2.good m2.isIn) (by assumption) (by simp [dJ,eU,aM,aU]) rfl rfl rfl rfl (by decide) (fun p hp=>by cases hp) fun ents' hme'=>?_
  repeat' first|refine go ?_|decide|refine sp ?_ ?_<;>intro _
  exact dE (P:=Tryz.prog) (rs:=[]) hme' (wR [0,10,11,12])
 .rename_i h1 h2 h3 h4;have e:jh l op a=bw (bw l (ti dy)).1 (uC (bw l (ti dy)).2 a):=by simp [jh,h1,h2,h3,h4]
  have m1:=Pm hg iR (by decide) (by omega);rw [e];refine bu (AZ r hg) (by assumption) (by simp [dJ,eU,aM,aU]) rfl rfl rfl rfl (by decide) (fun p hp=>by cases hp) fun ents' hme'=>?_
  repeat' first|refine go ?_|decide|refine sp ?_ ?_<;>intro _
  refine bu (rr r m1.good m1.isIn (ha.mono m1.pre)) (by assumption) (by simp [dJ,eU,aM,aU]) rfl rfl rfl rfl (by decide) (fun p hp=>by cases hp) fun ents' hme'=>?_
  repeat' first|refine go ?_|decide|refine sp ?_ ?_<;>intro _
  exact dE (P:=Tryz.prog) (rs:=[]) hme' (wR [0,7,8,9])
 .rename_i h1 h2 h3 h4 h5;have e:jh l op a=bw (bw (bw (bw l (dw a)).1 (ti dy)).1 (uC (bw (bw l (dw a)).1 (ti dy)).2 (bw l (dw a)).2)).1 (dw (bw (bw (bw l (dw a)).1 (ti dy)).1 (uC (bw (bw l (dw a)).1 (ti dy)).2 (bw l (dw a)).2)).2):=by simp [jh,h1,h2,h3,h4,h5]
  have m1:=mt hg ha (by omega);have m2:=Pm m1.good iR (by decide) (by omega);have m3:=Pc m2.good m2.isIn (m1.isIn.mono m2.pre) (by omega);rw [e];refine bu (iD r hg ha) (by assumption) (by simp [dJ,eU,aM,aU]) rfl rfl rfl rfl (by decide) (fun p hp=>by cases hp) fun ents' hme'=>?_
  repeat' first|refine go ?_|decide|refine sp ?_ ?_<;>intro _
  refine bu (AZ r m1.good) (by assumption) (by simp [dJ,eU,aM,aU]) rfl rfl rfl rfl (by decide) (fun p hp=>by cases hp) fun ents' hme'=>?_
  repeat' first|refine go ?_|decide|refine sp ?_ ?_<;>intro _
  refine bu (rr r m2.good m2.isIn (m1.isIn.mono m2.pre)) (by assumption) (by simp [dJ,eU,aM,aU]) rfl rfl rfl rfl (by decide) (fun p hp=>by cases hp) fun ents' hme'=>?_
  repeat' first|refine go ?_|decide|refine sp ?_ ?_<;>intro _
  refine bu (iD r m3.good m3.isIn) (by assumption) (by simp [dJ,eU,aM,aU]) rfl rfl rfl rfl (by decide) (fun p hp=>by cases hp) fun ents' hme'=>?_
  repeat' first|refine go ?_|decide|refine sp ?_ ?_<;>intro _
  exact dE (P:=Tryz.prog) (rs:=[]) hme' (wR [0,13,14,15])
 .rename_i h1 h2 h3 h4 h5 h6;have e:jh l op a=bw l (DD a):=by simp [jh,h1,h2,h3,h4,h5,h6]
  rw [e];refine bu (B8 r hg ha) (by assumption) (by simp [dJ,eU,aM,aU]) rfl rfl rfl rfl (by decide) (fun p hp=>by cases hp) fun ents' hme'=>?_
  repeat' first|refine go ?_|decide|refine sp ?_ ?_<;>intro _
  exact dE (P:=Tryz.prog) (rs:=[]) hme' (wR [0,4,5,6])
 .rename_i h1 h2 h3 h4 h5 h6;have e:jh l op a=bw l (dw a):=by simp [jh,h1,h2,h3,h4,h5,h6]
  rw [e];refine bu (iD r hg ha) (by assumption) (by simp [dJ,eU,aM,aU]) rfl rfl rfl rfl (by decide) (fun p hp=>by cases hp) fun ents' hme'=>?_
  repeat' first|refine go ?_|decide|refine sp ?_ ?_<;>intro _
  exact dE (P:=Tryz.prog) (rs:=[]) hme' (wR [0,4,5,6])
theorem TF {n:Nat} {l:List cY} {op a b:Int} (r:List Int) (hg:el n l) (ha:In l a) (hb:In l b) (hn:n+8<=100000):FA Tryz.prog 40 [eI op,eI a,eI b] l r (jl l op a b).1 r (jl l op a b).2:=by
 intro ents hme;refine bS ag Tryz.func40 rfl (by decide) Tryz.ntmps40 Tryz.results40 rfl (by kernel_rfl) (by simp [AV.ltL,AV.lt]) (by simp [bQ]) ?_
 repeat' first|refine go ?_|simp only [bR]|decide|refine sp ?_ ?_<;>intro _
 .rename_i h1;have e:jl l op a b=bw (bw (bw (bw l (dw a)).1 (dw b)).1 (ly (bw l (dw a)).2 (bw (bw l (dw a)).1 (dw b)).2)).1 (dw (bw (bw (bw l (dw a)).1 (dw b)).1 (ly (bw l (dw a)).2 (bw (bw l (dw a)).1 (dw b)).2)).2):=by simp [jl,h1]
  have m1:=mt hg ha (by omega);have m2:=mt m1.good (hb.mono m1.pre) (by omega);have m3:=G8 m2.good (m1.isIn.mono m2.pre) m2.isIn (by omega);rw [e];refine bu (iD r hg ha) (by assumption) (by simp [dJ,eU,aM,aU]) rfl rfl rfl rfl (by decide) (fun p hp=>by cases hp) fun ents' hme'=>?_
  repeat' first|refine go ?_|decide|refine sp ?_ ?_<;>intro _
  refine bu (iD r m1.good (hb.mono m1.pre)) (by assumption) (by simp [dJ,eU,aM,aU]) rfl rfl rfl rfl (by decide) (fun p hp=>by cases hp) fun ents' hme'=>?_
  repeat' first|refine go ?_|decide|refine sp ?_ ?_<;>intro _
  refine bu (zV r m2.good (m1.isIn.mono m2.pre) m2.isIn) (by assumption) (by simp [dJ,eU,aM,aU]) rfl rfl rfl rfl (by decide) (fun p hp=>by cases hp) fun ents' hme'=>?_
  repeat' first|refine go ?_|decide|refine sp ?_ ?_<;>intro _
  refine bu (iD r m3.good m3.isIn) (by assumption) (by simp [dJ,eU,aM,aU]) rfl rfl rfl rfl (by decide) (fun p hp=>by cases hp) fun ents' hme'=>?_
  repeat' first|refine go ?_|decide|refine sp ?_ ?_<;>intro _
  exact dE (P:=Tryz.prog) (rs:=[]) hme' (wR [0,13,14,15])
 .rename_i h1 h2;have e:jl l op a b=bw (bw (bw l (dw b)).1 (ly a (bw l (dw b)).2)).1 (dw (bw (bw l (dw b)).1 (ly a (bw l (dw b)).2)).2):=by simp [jl,h1,h2]
  have m1:=mt hg hb (by omega);have m2:=G8 m1.good (ha.mono m1.pre) m1.isIn (by omega);rw [e];refine bu (iD r hg hb) (by assumption) (by simp [dJ,eU,aM,aU]) rfl rfl rfl rfl (by decide) (fun p hp=>by cases hp) fun ents' hme'=>?_
  repeat' first|refine go ?_|decide|refine sp ?_ ?_<;>intro _
  refine bu (zV r m1.good (ha.mono m1.pre) m1.isIn) (by assumption) (by simp [dJ,eU,aM,aU]) rfl rfl rfl rfl (by decide) (fun p hp=>by cases hp) fun ents' hme'=>?_
  repeat' first|refine go ?_|decide|refine sp ?_ ?_<;>intro _
  refine bu (iD r m2.good m2.isIn) (by assumption) (by simp [dJ,eU,aM,aU]) rfl rfl rfl rfl (by decide) (fun p hp=>by cases hp) fun ents' hme'=>?_
  repeat' first|refine go ?_|decide|refine sp ?_ ?_<;>intro _
  exact dE (P:=Tryz.prog) (rs:=[]) hme' (wR [0,10,11,12])
 .rename_i h1 h2 h3;have e:jl l op a b=AE l a b:=by simp [jl,h1,h2,h3]
  rw [e];refine bu (Ug r hg ha hb hn) (by assumption) (by simp [dJ,eU,aM,aU]) rfl rfl rfl rfl (by decide) (fun p hp=>by cases hp) fun ents' hme'=>?_
  repeat' first|refine go ?_|decide|refine sp ?_ ?_<;>intro _
  exact dE (P:=Tryz.prog) (rs:=[]) hme' (wR [0,4,5,6])
 .rename_i h1 h2 h3 h4;have e:jl l op a b=bw l (uC a b):=by simp [jl,h1,h2,h3,h4]
  rw [e];refine bu (rr r hg ha hb) (by assumption) (by simp [dJ,eU,aM,aU]) rfl rfl rfl rfl (by decide) (fun p hp=>by cases hp) fun ents' hme'=>?_
  repeat' first|refine go ?_|decide|refine sp ?_ ?_<;>intro _
  exact dE (P:=Tryz.prog) (rs:=[]) hme' (wR [0,4,5,6])
 .rename_i h1 h2 h3 h4;have e:jl l op a b=bw l (ly a b):=by simp [jl,h1,h2,h3,h4]
  rw [e];refine bu (zV r hg ha hb) (by assumption) (by simp [dJ,eU,aM,aU]) rfl rfl rfl rfl (by decide) (fun p hp=>by cases hp) fun ents' hme'=>?_
  repeat' first|refine go ?_|decide|refine sp ?_ ?_<;>intro _
  exact dE (P:=Tryz.prog) (rs:=[]) hme' (wR [0,4,5,6])
theorem Je {l:List cY} {x:Int} (r:List Int) (hr:r.length<=100000):FA Tryz.prog 39 [] l (r ++ [x]) l r x:=by
 intro ents hme;refine bS ag Tryz.func39 rfl (by decide) Tryz.ntmps39 Tryz.results39 rfl (by kernel_rfl) (by simp [AV.ltL,AV.lt]) (by simp [bQ]) ?_
 have hw:IntKind.i64.wrap ((r.length:Int)+1 - 1)=(r.length:Int):=by
  rw [aD (by omega) (by omega)];omega
 have hlt:(r.length:Int)<(r.length:Int)+1:=by omega
 have hrow:(List.map (fun x=>[eI x]) (r ++ [x]))[r.length]?.getD []=[eI x]:=by simp
 have hlt2:r.length<r.length+1:=by omega
 have hle:(r.length:Int)<=(r.length:Int)+1:=by omega
 have htk:List.take r.length (List.map (fun x=>[eI x]) (r ++ [x]))=List.map (fun x=>[eI x]) r:=by simp
 repeat' first|refine go ?_|simp only [bR,Vi,Vy,WV,XL,hw,hlt,hlt2,hle,hrow,htk]|decide|refine sp ?_ ?_<;>intro _
 exact dE (P:=Tryz.prog) (rs:=[]) hme (wR [0,1,2,4])
end
end
section
section
abbrev Uc:=List cY × List Int
def gI (r:List Int):Int:=r.getLastD 0
def lq (p:Uc) (x:ah):Uc:=
 if aC x.op=1 then
  let q:=jh p.1 x.op (gI p.2)
  (q.1,p.2.dropLast ++ [q.2])
 else if aC x.op=2 then
  let q:=jl p.1 x.op (gI p.2.dropLast) (gI p.2)
  (q.1,p.2.dropLast.dropLast ++ [q.2])
 else
  let q:=bw p.1 (ti x)
  (q.1,p.2 ++ [q.2])
def gg (l:List ah):Uc:=l.foldl lq ([],[])
theorem pp {l:List ah} {k:Nat} (hk:k<l.length):gg (l.take (k+1))=lq (gg (l.take k)) l[k]:=by
 unfold gg;rw [Vk hk,Wh];rfl
theorem el.mono {n m:Nat} {l:List cY} (h:el n l) (hn:n<=m) (hm:m<=100000):el m l:=⟨h.st,h.ok,Vz h.len hn,hm⟩
theorem kh.mono {n m:Nat} {l:List cY} {p:Mk} (h:kh n l p) (hn:n<=m) (hm:m<=100000):kh m l p:=⟨h.good.mono hn hm,h.isIn,h.pre⟩
theorem O7 {n:Nat} {l:List cY} {op a:Int} (hg:el n l) (ha:In l a) (hn:n+8<=100000):kh (n+8) l (jh l op a):=by
 unfold jh;split
 .have m1:=mt hg ha (by omega);have m2:=UJ m1.good m1.isIn (by omega);have m3:=mt m2.good m2.isIn (by omega);exact kh.mono ⟨m3.good,m3.isIn,(m1.pre.trans m2.pre).trans m3.pre⟩ (by omega) hn
 .split
  .exact (UJ hg ha (by omega)).mono (by omega) hn
  .split
   .have m1:=mt hg ha (by omega);have m2:=RQ m1.good m1.isIn (by omega);have m3:=mt m2.good m2.isIn (by omega);exact kh.mono ⟨m3.good,m3.isIn,(m1.pre.trans m2.pre).trans m3.pre⟩ (by omega) hn
   .split
    .have m1:=Pm hg iR (by decide) (by omega);have m2:=Pc m1.good m1.isIn (ha.mono m1.pre) (by omega);exact kh.mono ⟨m2.good,m2.isIn,m1.pre.trans m2.pre⟩ (by omega) hn
    .split
     .have m1:=mt hg ha (by omega);have m2:=Pm m1.good iR (by decide) (by omega);have m3:=Pc m2.good m2.isIn (m1.isIn.mono m2.pre) (by omega);have m4:=mt m3.good m3.isIn (by omega);exact kh.mono ⟨m4.good,m4.isIn,((m1.pre.trans m2.pre).trans m3.pre).trans m4.pre⟩ (by omega) hn
     .split
      .exact (RQ hg ha (by omega)).mono (by omega) hn
      .exact (mt hg ha (by omega)).mono (by omega) hn
theorem O3 {n:Nat} {l:List cY} {op a b:Int} (hg:el n l) (ha:In l a) (hb:In l b) (hn:n+8<=100000):kh (n+8) l (jl l op a b):=by
 unfold jl;split
 .have m1:=mt hg ha (by omega);have m2:=mt m1.good (hb.mono m1.pre) (by omega);have m3:=G8 m2.good (m1.isIn.mono m2.pre) m2.isIn (by omega);have m4:=mt m3.good m3.isIn (by omega);exact kh.mono ⟨m4.good,m4.isIn,((m1.pre.trans m2.pre).trans m3.pre).trans m4.pre⟩ (by omega) hn
 .split
  .have m1:=mt hg hb (by omega);have m2:=G8 m1.good (ha.mono m1.pre) m1.isIn (by omega);have m3:=mt m2.good m2.isIn (by omega);exact kh.mono ⟨m3.good,m3.isIn,(m1.pre.trans m2.pre).trans m3.pre⟩ (by omega) hn
  .split
   .exact TR hg ha hb hn
   .split
    .exact (Pc hg ha hb (by omega)).mono (by omega) hn
    .exact (G8 hg ha hb (by omega)).mono (by omega) hn
theorem C7 {op:Int} (h:aC op=0):1<=op /\ op<=14:=by
 unfold aC at h;split at h
 .assumption
 .split at h
  .omega
  .split at h<;>omega
theorem ki {r:List Int} (h:0<r.length):r=r.dropLast ++ [gI r]:=by
 have hne:r ≠ []:=by intro e;simp [e] at h
 unfold gI;rw [List.getLastD_eq_getLast?,List.getLast?_eq_some_getLast hne,VH,List.dropLast_concat_getLast hne]
structure J9 (n:Nat) (p:Uc):Prop where
 good:el n p.1
 row:∀ a ∈ p.2,In p.1 a
theorem jc {r:List Int} (h:0<r.length):gI r ∈ r /\ ∀ a ∈ r.dropLast,a ∈ r:=by
 have e:=ki h;refine ⟨?_,fun a ha=>(List.dropLast_sublist _).subset ha⟩;rw [e];simp [gI]
theorem KG {n d:Nat} {p:Uc} {x:ah} (h:J9 n p) (hx:x.ok) (hp:bU p.2.length x.op=some d) (hn:n+8<=100000):J9 (n+8) (lq p x) /\ (lq p x).2.length=d:=by
 unfold bU at hp;unfold lq;by_cases h1:aC x.op=1
 .have h0:aC x.op ≠ 0:=by omega
  rw [Vh h0] at hp;by_cases hd:1<=p.2.length
  .rw [Vn ⟨h1,hd⟩] at hp;rw [Vn h1];have hm:=jc hd;have m:=O7 (op:=x.op) h.good (h.row _ hm.1) hn;refine ⟨⟨m.good,fun a ha=>?_⟩,?_⟩
   .rcases Vp.1 ha with ha | ha
    .exact (h.row a (hm.2 a ha)).mono m.pre
    .simp at ha;rw [ha];exact m.isIn
   .cases hp;simp;omega
  .rw [Vh (by simp [hd]),Vh (by omega)] at hp;cases hp
 .rw [Vh h1];by_cases h2:aC x.op=2
  .rw [Vh (by omega),Vh (by omega)] at hp;by_cases hd:2<=p.2.length
   .rw [Vn ⟨h2,hd⟩] at hp;rw [Vn h2];have hm:=jc (show 0<p.2.length by omega);have hm2:=jc (r:=p.2.dropLast) (by simp;omega);have m:=O3 (op:=x.op) h.good (h.row _ (hm.2 _ hm2.1)) (h.row _ hm.1) hn;refine ⟨⟨m.good,fun a ha=>?_⟩,?_⟩
    .rcases Vp.1 ha with ha | ha
     .exact (h.row a (hm.2 a (hm2.2 a ha))).mono m.pre
     .simp at ha;rw [ha];exact m.isIn
    .cases hp;simp;omega
   .rw [Vh (by simp [hd])] at hp;cases hp
  .rw [Vh h2];by_cases h0:aC x.op=0
   .rw [Vn h0] at hp;have h15:=C7 h0;have m:=(Pm h.good hx h15 (by omega)).mono (m:=n+8) (by omega) hn;refine ⟨⟨m.good,fun a ha=>?_⟩,?_⟩
    .rcases Vp.1 ha with ha | ha
     .exact (h.row a ha).mono m.pre
     .simp at ha;rw [ha];exact m.isIn
    .cases hp;simp
   .rw [Vh h0,Vh (by simp [h1]),Vh (by simp [h2])] at hp;cases hp
theorem fJ:∀ (a b:List Int) (d:Nat),aZ (a ++ b) d=(aZ a d).bind (aZ b)
 | [],b,d=>rfl
 | op :: a,b,d=>by
  simp only [Wg,aZ]
  cases bU d op with
  | none=>rfl
  | some d'=>exact fJ a b d'
theorem rO {l:List ah} {k e:Nat} (h:aZ (l.map ah.op) 0=some e) (hk:k<l.length):∃ d,aZ ((l.take k).map ah.op) 0=some d /\ ∃ d',bU d l[k].op=some d' /\ aZ ((l.take (k+1)).map ah.op) 0=some d':=by
 have h1:l=l.take k ++ l[k] :: l.drop (k+1):=by rw [List.getElem_cons_drop,WX]
 rw [h1,VE,fJ] at h
 cases hd:aZ ((l.take k).map ah.op) 0 with
 | none=>rw [hd] at h;cases h
 | some d=>
  refine ⟨d,rfl,?_⟩;rw [hd] at h;simp only [VY,Wm,aZ] at h
  cases hp:bU d l[k].op with
  | none=>rw [hp] at h;cases h
  | some d'=>
   refine ⟨d',rfl,?_⟩;rw [Vk hk,VE,fJ,hd];simp [aZ,hp]
theorem wQ:∀ (l:List Int) (d e:Nat),aZ l d=some e -> e<=d+l.length
 | [],d,e,h=>by cases h;exact Os _
 | op :: l,d,e,h=>by
  rw [aZ] at h
  cases hp:bU d op with
  | none=>rw [hp] at h;cases h
  | some d'=>
   rw [hp] at h;have h1:=wQ l d' e h;have h2:=y8 hp;simp only [VI];omega
theorem mB {l:List ah} {e:Nat} (h:aZ (l.map ah.op) 0=some e) (hx:∀ x ∈ l,x.ok) (hl:l.length<=64):∀ k,k<=l.length -> J9 (8 * k) (gg (l.take k)) /\ aZ ((l.take k).map ah.op) 0=some (gg (l.take k)).2.length
 | 0,_=>⟨⟨⟨⟨by simp [gg],fun i s hi=>by simp [gg] at hi⟩,fun t ht=>by simp [gg] at ht,by simp [gg],by omega⟩,fun a ha=>by simp [gg] at ha⟩,by simp [aZ,gg]⟩
 | k+1,hk=>by
  obtain ⟨h1,h2⟩:=mB h hx hl k (by omega);obtain ⟨d,h3,d',h4,h5⟩:=rO h (show k<l.length by omega);rw [h2] at h3;cases h3;obtain ⟨h6,h7⟩:=KG h1 (hx _ (Vf (by omega))) h4 (by omega);rw [pp (by omega)];exact ⟨by rw [show 8 * (k+1)=8 * k+8 by omega];exact h6,by rw [h5,h7]⟩
theorem gM {r av:AV} {st:aj} (h:r.ren []=av):fe ⟨r,[],0⟩ st av:=⟨[],List.nodup_nil,h,trivial⟩
theorem So {vs:Array Value} (h:vs.size=1):∃ a,vs = #[a]:=⟨vs[0],by apply Array.ext (by simpa using h);intro i h1 h2;simp at h2;match i with | 0=>rfl⟩
abbrev qT (op:Int):List AV:=[eI op,.c (.string ByteArray.empty),eI 0,.c (.string ByteArray.empty),eI 0,.c (.string ByteArray.empty),.c (.string ByteArray.empty),eI 0,eI 0]
theorem Ib {w:World} {S:Nat -> Prop} {v:Value} {l:List ah} (h:RT w S v (.sl 9 (l.map fun x=>qT x.op))) (hl:∀ x ∈ l,x.ok):(aF t3).one w S v (l.map eT):=by
 obtain ⟨A,cap,rfl,hc,hm,_,hA⟩:=h.sl_inv;refine ⟨A,cap,by simp,by simpa using hc,hm,fun h0=>?_⟩;obtain ⟨b,o,rfl,hb,U,hcell,hr,_⟩:=hA (by simpa using h0);refine ⟨b,o,rfl,hb,fun i hi=>⟨(l.map eT)[i].cells,fun j u hu=>?_,rfl,?_⟩⟩
 .have hi':i<l.length:=by simpa using hi
  have h1:(l.map fun x=>qT x.op)[i]? = some (qT l[i].op):=by simp [hi']
  have h3:∀ (j:Nat) (u:Value),(eT l[i]).cells[j]? = some u -> (qT l[i].op)[j]? = some (AV.c u):=by
   intro j u hu;unfold ft.cells eT at hu
   match j with
   | 0 | 1 | 2 | 3 | 4 | 5 | 6 | 7 | 8=>simp at hu;subst hu;rfl
   | j+9=>simp at hu
  have h4:=h3 j u (by simpa using hu);have h2:=hcell i j _ _ h1 h4;rw [Gj (hr i j _ _ h1 h4)] at h2;exact h2
 .have hi':i<l.length:=by simpa using hi
  have:=(hl _ (Vf hi')).1;have z:aI 0:=by simp [aI]
  have e:(ByteArray.size ⟨#[]⟩)<=9223372036854775807:=by decide
  rw [List.getElem_map];exact ⟨this,z,z,z,z,e,e,e,e⟩
theorem NX (l:List ah) (hl:∀ x ∈ l,x.ok):aw Tryz.prog 36 [.sl 9 (l.map fun x=>qT x.op)] (val (.int .i64 (be (l.map ah.op)))):=
 fM (fb Tryz.func36 rfl (by decide)) fun S w vs hS hn hv=>by
  obtain ⟨a,rfl⟩:=So hn;have:=pE (l.map eT) a S w (Ib (hv 0 a _ rfl rfl) hl) hS.sub;rw [qj] at this;exact this
theorem I9 (op:Int):aw Tryz.prog 37 [eI op] (val (.int .i64 (aC op))):=
 fM (fb Tryz.func37 rfl (by decide)) fun S w vs hS hn hv=>by
  obtain ⟨a,rfl⟩:=So hn;obtain rfl:=Gj (hv 0 a _ rfl rfl);exact (j0 op w).mono fun e w' ⟨h1,h2⟩=>⟨h1,h2 ▸ Below.refl _ _⟩
def nt (l:List ah):cM:=if be (l.map ah.op)=0 then ⟨.tup [.sl 10 ((gg l).1.map nw),eI (gI (gg l).2),eI 0],[],0⟩ else ⟨.tup [.c (.slice none 0 0),eI 0,eI 17],[],0⟩
def Id (rows:List (List AV)) (ents:List (Value × Value)) (r:List Int) (x:Int) (av:AV) (cells':List AV) (objs':List aE):Prop:=av=eI x /\ cells'=[.sl 10 rows,.osl 1,.osl 2] /\ objs'=[.map ents,oR r]
theorem TJ {x:Int} (rows:List (List AV)) (ents:List (Value × Value)) (r:List Int) (hr:r.length<=100000):En Tryz.prog 39 119 [.sl 10 rows,.osl 1,.osl 2] [.map ents,oR (r ++ [x])] [] (Id rows ents r x):=by
 refine bS ag Tryz.func39 rfl (by decide) Tryz.ntmps39 Tryz.results39 rfl (by kernel_rfl) (by simp [AV.ltL,AV.lt]) (by simp [bQ]) ?_
 have hw:IntKind.i64.wrap ((r.length:Int)+1 - 1)=(r.length:Int):=by
  rw [aD (by omega) (by omega)];omega
 have hlt:(r.length:Int)<(r.length:Int)+1:=by omega
 have hrow:(List.map (fun x=>[eI x]) (r ++ [x]))[r.length]?.getD []=[eI x]:=by simp
 have hlt2:r.length<r.length+1:=by omega
 have hle:(r.length:Int)<=(r.length:Int)+1:=by omega
 have htk:List.take r.length (List.map (fun x=>[eI x]) (r ++ [x]))=List.map (fun x=>[eI x]) r:=by simp
 repeat' first|refine go ?_|simp only [bR,Vi,Vy,WV,XL,hw,hlt,hlt2,hle,hrow,htk]|decide|refine sp ?_ ?_<;>intro _
 exact ⟨[.sl 10 rows,.osl 1,.osl 2],[.map ents,oR r],⟨rfl,rfl,rfl⟩,trivial,⟨rfl,by simp [AV.ltL,AV.lt],by simp [bQ]⟩,(wS [0,1,3] (kf @bR.eq_1 @bR.eq_2))⟩
def Kt (l:List ah) (st:aj):Prop:=∃ (k:Nat) (ents:List (Value × Value)) (L:List cY) (r:List Int),k<=l.length /\ (gg (l.take k)=(L,r) /\ me ents L) /\
  ((k<l.length /\ st=⟨80,[(8,.op 0 0 0),(32,aR l),(33,eI (l.length:Int)),(34,eI (k:Int))],[(0,some (.box 119 Hh)),(1,some (oL L)),(2,some (.map ents)),(3,some (oR r))],4⟩) \/
   (k=l.length /\ st=⟨80,[(8,.op 0 0 0),(32,aR l),(33,eI (l.length:Int)),(34,eI (k:Int))],[(0,some (.box 119 [.sl 10 (L.map nw),.osl 1,.osl 2])),(1,some (.map ents)),(2,some (oR r))],3⟩))
theorem l9 {l:List ah} {k:Nat} {n:Nat} {st:aj} {L:List cY} {r:List Int} {ents:List (Value × Value)} (hk:k<l.length) (hrun:gg (l.take (k+1))=(L,r)) (hme:me ents L)
  (hw:dC st ⟨80,[(8,.op 0 0 0),(32,aR l),(33,eI (l.length:Int)),(34,eI ((k+1:Nat):Int))],[(0,some (.box 119 Hh)),(1,some (oL L)),(2,some (.map ents)),(3,some (oR r))],4⟩) (hn:n=l.length - k) :
  sU (Kt l) (fun st=>l.length - ax st 34) n st:=by
 by_cases h:k+1<l.length
 .refine cU hw ⟨k+1,ents,L,r,by omega,⟨hrun,hme⟩,.inl ⟨h,rfl⟩⟩ ?_;simp only [ax,aj.get,bh,↓reduceIte,Nat.reduceLT,Nat.reduceEqDiff];omega
 .have hl:k+1=l.length:=by omega
  refine cU (hw.trans ((ov _ 1).trans ?_)) ⟨k+1,ents,L,r,by omega,⟨hrun,hme⟩,.inr ⟨hl,rfl⟩⟩ ?_
  .simp only [ia,gl,b9,ae.gc,aE.frz,AV.frz,AV.frzL,Hh,↓reduceIte,Nat.reduceEqDiff,VX,XJ,reduceCtorEq,Xv];exact (wR [0,2,3])
  .simp only [ax,aj.get,bh,↓reduceIte,Nat.reduceLT,Nat.reduceEqDiff];omega
theorem GZ (l:List ah):(nt l).Ok:=by
 unfold nt;split
 .exact ⟨fun id o h=>(by cases h),⟨trivial,trivial,trivial,trivial⟩⟩
 .exact ⟨fun id o h=>(by cases h),⟨trivial,trivial,trivial,trivial⟩⟩
theorem MQ (l:List ah) (hx:∀ x ∈ l,x.ok) (hl:l.length<=1000000):aw Tryz.prog 20 [aR l] (nt l):=by
 refine aa ag Tryz.func20 rfl (by decide) Tryz.ntmps20 Tryz.results20 rfl (GZ l) ?_
 repeat' first|refine go ?_|decide|refine sp ?_ ?_<;>intro _
 refine af (fun st=>∃ k:Nat,k<=l.length /\ st=⟨80,[(0,aR l),(5,.osl 0),(13,aR l),(14,eI (l.length:Int)),(15,eI (k:Int))],[(0,some (.row 101 9 ((l.take k).map fun x=>qT x.op)))],1⟩) (fun st=>l.length - ax st 15) ⟨_,((bA 5 101 9 (by simp only [jn,aj.get,bh,aj.put,↓reduceIte,reduceCtorEq,Nat.reduceLT,Nat.reduceEqDiff,Nat.reduceAdd,Nat.reduceLeDiff,eq_self,implies_true,VA])).trans (wS [0] @VA)),0,Vg _,rfl⟩ ?_;rintro _ ⟨k,hk,rfl⟩;by_cases hlt:k<l.length
 .have et:(l.take (k+1)).map (fun x=>qT x.op)=(l.take k).map (fun x=>qT x.op) ++ [[AV.c (Value.int IntKind.i64 l[k].op),AV.c (Value.string ByteArray.empty),AV.c (Value.int IntKind.i64 0),AV.c (Value.string ByteArray.empty),AV.c (Value.int IntKind.i64 0),AV.c (Value.string ByteArray.empty),AV.c (Value.string ByteArray.empty),AV.c (Value.int IntKind.i64 0),AV.c (Value.int IntKind.i64 0)]]:=dT _ _ hlt
  repeat' first|refine go ?_|simp only [ab,hlt]|decide|refine sp ?_ ?_<;>intro _
  refine ⟨rfl,⟨by simp only [Vr];omega,by simp only [Vr];omega⟩,rI (wS [3] et) ⟨k+1,by omega,rfl⟩⟩
 obtain rfl:k=l.length:=by omega
 repeat' first|refine go ?_|simp only [ab,hlt,Vq]|decide|refine sp ?_ ?_<;>intro _
 refine ay (by exact NX l hx) ?_;by_cases hc:be (l.map ah.op)=0
 .have ec:(be (l.map ah.op) != 0)=false:=by simp [hc]
  have hr:nt l=⟨.tup [.sl 10 ((gg l).1.map nw),eI (gI (gg l).2),eI 0],[],0⟩:=Vn hc;rw [hr]
  have hlen:0<l.length /\ l.length<=64:=by
   have:=hc;unfold be at this;simp only [Vo] at this;split at this
   .cases this
   .split at this
    .cases this
    .omega
  have hrow:aZ (l.map ah.op) 0=some 1:=by
   have:=hc;unfold be at this;simp only [Vo] at this;split at this
   .cases this
   .split at this
    .cases this
    .split at this
     .assumption
     .cases this
  repeat' first|refine ge ec ?_|decide|refine sp ?_ ?_<;>intro _
  refine af (Kt l) (fun st=>l.length - ax st 34) ⟨_,((ct 2 0 84 10 (t:=119) (cells:=[.c (.slice none 0 0),.osl 1,.c (.slice none 0 0)]) (by simp [ae.gc]) rfl).trans ((ct 2 2 3 1 (t:=119) (cells:=[.osl 3,.osl 1,.c (.slice none 0 0)]) (by simp [ae.gc]) rfl).trans (wS [2,3,1,4] (kf @WC @W3)))),0,[],[],[],Vg _,⟨rfl,GM⟩,.inl ⟨hlen.1,rfl⟩⟩ ?_;rintro _ ⟨k,ents,L,r,hk,⟨hrun,hme⟩,⟨hlt,rfl⟩ | ⟨rfl,rfl⟩⟩
  .obtain ⟨hgs,hdep⟩:=mB hrow hx hlen.2 k hk;rw [hrun] at hgs hdep;obtain ⟨d,h3,d',h4,h5⟩:=rO hrow hlt;rw [hdep] at h3;cases h3;have hnext:=pp hlt;rw [hrun] at hnext;have hxk:=hx _ (Vf hlt)
   have hrl:r.length<=100000:=by
    have:=wQ _ _ _ hdep;simp only [Vo,Vr] at this;omega
   have hrl2:r.length<=64:=by
    have:=wQ _ _ _ hdep;simp only [Vo,Vr] at this;omega
   repeat' first|refine go ?_|simp only [ab,hlt]|decide|refine sp ?_ ?_<;>intro _
   refine ay (I9 _) ?_;by_cases h1:aC l[k].op=1
   .have e1:(aC l[k].op == 1)=true:=by simp [h1]
    obtain ⟨r,a,rfl⟩:∃ r' a,r=r' ++ [a]:=by
     have:1<=r.length:=by
      unfold bU at h4;rw [Vh (by omega)] at h4;by_cases hd:1<=r.length
      .exact hd
      .rw [Vh (by simp [hd]),Vh (by omega)] at h4;cases h4
     exact ⟨_,_,ki this⟩
    simp only [Vi,Vy] at hrl hrl2;have ha:In L a:=hgs.row a (by simp)
    have estep:lq (L,r ++ [a]) l[k]=((jh L l[k].op a).1,r ++ [(jh L l[k].op a).2]):=by
     unfold lq;rw [Vn h1];simp [gI]
    repeat' first|refine ge e1 ?_|decide|refine sp ?_ ?_<;>intro _
    refine ap [0,1,2,3] [0,1,2,3] (.exec 4 (.exec 5 (.exec 6 .done))) (by kernel_rfl) (by simp [ae.gc]) ?_
    repeat' first|refine go ?_|decide|refine sp ?_ ?_<;>intro _
    refine bu (Je r (by omega)) (by assumption) (by simp [dJ,eU,aM,aU]) rfl rfl rfl rfl (by decide) (by rintro p hp;cases hp;simp [fO]) fun ents1 hm1=>?_
    repeat' first|refine go ?_|decide|refine sp ?_ ?_<;>intro _
    refine bu (UE (op:=l[k].op) r hgs.good ha (by omega)) (by assumption) (by simp [dJ,eU,aM,aU]) rfl rfl rfl rfl (by decide) (by rintro p hp;cases hp;simp [fO]) fun ents2 hm2=>?_
    repeat' first|refine ge @Vi ?_|decide|refine sp ?_ ?_<;>intro _
    refine ⟨rfl,⟨by omega,by omega⟩,?_⟩;exact l9 hlt (by rw [hnext];exact estep) hm2 (wS [0,8,9,12] @VE) (by simp only [ax,aj.get,bh,↓reduceIte,Nat.reduceLT,Nat.reduceEqDiff];omega)
   by_cases h2:aC l[k].op=2
   .have e1:(aC l[k].op == 1)=false:=(by simp [h1]);have e2:(aC l[k].op == 2)=true:=(by simp [h2])
    obtain ⟨r,a,b,rfl⟩:∃ r' a b,r=(r' ++ [a]) ++ [b]:=by
     have:2<=r.length:=by
      unfold bU at h4;rw [Vh (by omega),Vh (by omega)] at h4;by_cases hd:2<=r.length
      .exact hd
      .rw [Vh (by simp [hd])] at h4;cases h4
     exact ⟨r.dropLast.dropLast,gI r.dropLast,gI r,by
      rw [<- ki (r:=r.dropLast) (by simp;omega)];exact ki (by omega)⟩
    simp only [Vi,Vy] at hrl hrl2;have ha:In L a:=hgs.row a (by simp);have hb:In L b:=hgs.row b (by simp)
    have estep:lq (L,(r ++ [a]) ++ [b]) l[k]=((jl L l[k].op a b).1,r ++ [(jl L l[k].op a b).2]):=by
     unfold lq;rw [Vh h1,Vn h2];simp [gI]
    repeat' first|refine ge (kf e1 e2) ?_|decide|refine sp ?_ ?_<;>intro _
    refine bu (Je (r ++ [a]) (by simp;omega)) (by assumption) (by simp [dJ,eU,aM,aU]) rfl rfl rfl rfl (by decide) (fun p hp=>by cases hp) fun ents1 hm1=>?_
    repeat' first|refine go ?_|decide|refine sp ?_ ?_<;>intro _
    refine ap [0,5,6,7] [0,1,2,3,5] (.exec 4 (.exec 6 (.exec 7 .done))) (by kernel_rfl) (by simp [ae.gc]) ?_
    repeat' first|refine go ?_|decide|refine sp ?_ ?_<;>intro _
    refine bu (Je r (by omega)) (by assumption) (by simp [dJ,eU,aM,aU]) rfl rfl rfl rfl (by decide) (by rintro p hp;cases hp;simp [fO]) fun ents2 hm2=>?_
    repeat' first|refine go ?_|decide|refine sp ?_ ?_<;>intro _
    refine bu (TF (op:=l[k].op) r hgs.good ha hb (by omega)) (by assumption) (by simp [dJ,eU,aM,aU]) rfl rfl rfl rfl (by decide) (by rintro p hp;cases hp;simp [fO]) fun ents3 hm3=>?_
    repeat' first|refine ge @Vi ?_|decide|refine sp ?_ ?_<;>intro _
    refine ⟨rfl,⟨by omega,by omega⟩,?_⟩;exact l9 hlt (by rw [hnext];exact estep) hm3 (wS [0,11,12,15] @VE) (by simp only [ax,aj.get,bh,↓reduceIte,Nat.reduceLT,Nat.reduceEqDiff];omega)
   have e1:(aC l[k].op == 1)=false:=(by simp [h1]);have e2:(aC l[k].op == 2)=false:=(by simp [h2])
   have h15:1<=l[k].op /\ l[k].op<=14:=by
    unfold bU at h4;by_cases h0:aC l[k].op=0
    .exact C7 h0
    .rw [Vh h0,Vh (by simp [h1]),Vh (by simp [h2])] at h4;cases h4
   have estep:lq (L,r) l[k]=((bw L (ti l[k])).1,r ++ [(bw L (ti l[k])).2]):=by
    unfold lq;rw [Vh h1,Vh h2]
   repeat' first|refine ge (kf e1 e2) ?_|decide|refine sp ?_ ?_<;>intro _
   refine bu (I4 r hgs.good hxk h15) (by assumption) (by simp [dJ,eU,aM,aU]) rfl rfl rfl rfl (by decide) (fun p hp=>by cases hp) fun ents1 hm1=>?_
   repeat' first|refine ge @Vi ?_|decide|refine sp ?_ ?_<;>intro _
   refine ⟨rfl,⟨by omega,by omega⟩,?_⟩;exact l9 hlt (by rw [hnext];exact estep) hm1 (wS [0,5,6,9] @VE) (by simp only [ax,aj.get,bh,↓reduceIte,Nat.reduceLT,Nat.reduceEqDiff];omega)
  .have hlt:¬ l.length<l.length:=(by omega);have hdep:=(mB hrow hx hlen.2 l.length (Os _)).2;rw [Vq] at hrun hdep;rw [hrow,hrun] at hdep
   obtain ⟨x,rfl⟩:∃ x,r=[] ++ [x]:=by
    have h1:r.length=1:=by simpa using hdep.symm
    exact ⟨r[0],by
     apply Xw (by simpa using h1);intro i h2 h3;have:i=0:=by omega
     subst this;rfl⟩
   rw [hrun]
   repeat' first|refine go ?_|simp only [ab,hlt]|decide|refine sp ?_ ?_<;>intro _
   refine ap [0,1,2] [0,1,2,4] (.two 3 (.exec 5 (.exec 6 (.exec 7 (.exec 8 .done)))) 5 (.exec 3 (.exec 6 (.exec 7 (.exec 8 .done))))) (by kernel_rfl) (by simp [ae.gc]) ?_
   repeat' first|refine go ?_|decide|refine sp ?_ ?_<;>intro _
   refine ⟨?_,?_⟩
   all_goals
    refine DP [1,2] (TJ (L.map nw) ents [] (by simp)) (by simp [dJ]) (by simp [ae.gc,AV.renL,AV.ren]) ⟨⟨rfl,trivial⟩,⟨rfl,trivial⟩,trivial⟩ (by decide) (by rintro p hp;cases hp;simp [fO]) ?_;rintro av cells' objs' ⟨rfl,rfl,rfl⟩
    repeat' first|refine go ?_|simp only [iU,bR,AV.renL,AV.ren]|decide|refine sp ?_ ?_<;>intro _
    exact gM rfl
 .have ec:(be (l.map ah.op) != 0)=true:=by simp [hc]
  have hr:nt l=⟨.tup [.c (.slice none 0 0),eI 0,eI 17],[],0⟩:=Vh hc;rw [hr]
  repeat' first|refine ge ec ?_|decide|refine sp ?_ ?_<;>intro _
  exact gM rfl
end
section
def t6 (a:List Bool) (i:Int):Bool:=decide (0<=i) && a.getD i.toNat false
theorem jz (a:List Bool) (i:Nat):t6 a (i:Int)=a.getD i false:=by simp [t6]
theorem Qb {a:List Bool} {i:Int} (h:t6 a i=true):0<=i /\ i<(a.length:Int):=by
 simp only [t6,Vw,VG] at h;refine ⟨h.1,?_⟩;rcases Vv i.toNat a.length with h1|h1
 .omega
 .rw [List.getD,Vs h1] at h;simp at h
def ny (next:List (List Int)) (i k:Nat):Prop:=(k:Int) ∈ next.getD i [] /\ k<next.length
def f7 (n:Nat) (a:List Bool) (row:List Int):Bool:=row.any fun k=>decide (k<(n:Int)) && t6 a k
def ud (next:List (List Int)) (a:List Bool):List Bool:=next.map (f7 next.length a)
theorem nM (next:List (List Int)) (a:List Bool):(ud next a).length=next.length:=by simp [ud]
theorem B6 (next:List (List Int)) (a:List Bool) (i:Nat):(ud next a).getD i false=true ↔ ∃ k,ny next i k /\ a.getD k false=true:=by
 unfold ud f7 ny;rw [List.getD,Ve];rcases Vv i next.length with h|h
 .rw [f4 h];simp only [VX,VH,Xz,Vw,VG];have e:next.getD i []=next[i]:=by rw [List.getD,f4 h];rfl
  rw [e];refine ⟨fun ⟨k,h1,h2,h3⟩=>?_,fun ⟨k,⟨h1,h2⟩,h3⟩=>⟨(k:Int),h1,by omega,by rw [jz];exact h3⟩⟩;obtain ⟨m,rfl⟩:=Xy (Qb h3).1;exact ⟨m,⟨h1,by omega⟩,by rw [<- jz];exact h3⟩
 .rw [Vs h];have e:next.getD i []=[]:=by rw [List.getD,Vs h];rfl
  rw [e];simp
inductive GC (next:List (List Int)) (a b:List Bool):Nat -> Prop
 | here (i:Nat):i<next.length -> b.getD i false=true -> GC next a b i
 | step (i k:Nat):i<next.length -> a.getD i false=true -> ny next i k -> GC next a b k -> GC next a b i
def JT (next:List (List Int)) (a:List Bool) (i:Nat):Prop:=∃ S:Nat -> Prop,S i /\ ∀ j,S j -> j<next.length /\ a.getD j false=true /\ ∃ k,ny next j k /\ S k
open Classical in
noncomputable def t7 (next:List (List Int)) (a b:List Bool):List Bool:=(List.range next.length).map fun i=>decide (GC next a b i)
open Classical in
noncomputable def He (next:List (List Int)) (a:List Bool):List Bool:=(List.range next.length).map fun i=>decide (JT next a i)
theorem df (next:List (List Int)) (a b:List Bool):(t7 next a b).length=next.length:=by simp [t7]
theorem dI (next:List (List Int)) (a:List Bool):(He next a).length=next.length:=by simp [He]
theorem GC.lt {next:List (List Int)} {a b:List Bool} {i:Nat} (h:GC next a b i):i<next.length:=by cases h<;>assumption
theorem JT.lt {next:List (List Int)} {a:List Bool} {i:Nat} (h:JT next a i):i<next.length:=by obtain ⟨S,h1,h2⟩:=h;exact (h2 i h1).1
theorem xM (next:List (List Int)) (a b:List Bool) (i:Nat):(t7 next a b).getD i false=true ↔ GC next a b i:=by
 unfold t7;rw [List.getD,Ve];rcases Vv i next.length with h|h
 .rw [Ws h];simp
 .rw [Vs (by simpa using h)];simp;exact fun hh=>by have:=hh.lt;omega
theorem Cm (next:List (List Int)) (a:List Bool) (i:Nat):(He next a).getD i false=true ↔ JT next a i:=by
 unfold He;rw [List.getD,Ve];rcases Vv i next.length with h|h
 .rw [Ws h];simp
 .rw [Vs (by simpa using h)];simp;exact fun hh=>by have:=hh.lt;omega
theorem lX {a b:List Bool} (hl:a.length=b.length) (h:∀ i,i<a.length -> (a.getD i false=true ↔ b.getD i false=true)):a=b:=by
 apply Xw hl;intro i h1 h2;have:=h i h1;rw [List.getD,f4 h1,List.getD,f4 h2] at this;simp at this
 first|exact this|exact Wo.2 this
theorem Qe (next:List (List Int)) (a b:List Bool) (i:Nat) (hi:i<next.length) :
  (t7 next a b).getD i false=(b.getD i false || (a.getD i false && (ud next (t7 next a b)).getD i false)):=by
 rw [Wo];simp only [Xd,Vw,B6,xM];refine ⟨fun h=>?_,fun h=>?_⟩
 .cases h with
  | here _ _ h=>exact .inl h
  | step _ k _ h1 h2 h3=>exact .inr ⟨h1,k,h2,h3⟩
 .rcases h with h | ⟨h1,k,h2,h3⟩
  .exact .here i hi h
  .exact .step i k hi h1 h2 h3
def cnt (a:List Bool):Nat:=(a.filter id).length
theorem xl (a:List Bool):cnt a<=a.length:=List.length_filter_le _ _
theorem PV:∀ {a b:List Bool},a.length=b.length -> (∀ i,a.getD i false=true -> b.getD i false=true) -> a ≠ b -> cnt a<cnt b:=by
 intro a
 induction a with
 | nil=>intro b hl _ hne;cases b with
  | nil=>exact absurd rfl hne
  | cons y b=>simp at hl
 | cons x a ih=>
  intro b hl h hne
  cases b with
  | nil=>simp at hl
  | cons y b=>
   have h0:=h 0;have hs:∀ i,a.getD i false=true -> b.getD i false=true:=fun i hi=>by have:=h (i+1);simpa using this (by simpa using hi)
   simp at h0;by_cases e:a=b
   .subst e;have:x ≠ y:=fun e=>hne (by rw [e]);cases x<;>cases y<;>simp_all [cnt]
   .have:=ih (by simpa using hl) hs e;unfold cnt at this ⊢;cases x<;>cases y<;>simp_all<;>omega
theorem EX (next:List (List Int)) (a b out:List Bool) (h:∀ i,i<next.length -> (b.getD i false=true \/ (a.getD i false=true /\ ∃ k,ny next i k /\ out.getD k false=true)) -> out.getD i false=true):∀ i,GC next a b i -> out.getD i false=true:=by
 intro i hi
 induction hi with
 | here i h0 h1=>exact h i h0 (.inl h1)
 | step i k h0 h1 h2 _ ih=>exact h i h0 (.inr ⟨h1,k,h2,ih⟩)
def sM (next:List (List Int)) (out:List Bool):List Bool:=(List.range next.length).map fun i=>out.getD i false && (ud next out).getD i false
theorem xI (next:List (List Int)) (out:List Bool):(sM next out).length=next.length:=by simp [sM]
theorem LL (next:List (List Int)) (out:List Bool) (i:Nat):(sM next out).getD i false=true ↔ i<next.length /\ out.getD i false=true /\ ∃ k,ny next i k /\ out.getD k false=true:=by
 unfold sM;rw [List.getD,Ve];rcases Vv i next.length with h|h
 .rw [Ws h];simp only [VX,VH,Vw,B6];exact ⟨fun hh=>⟨h,hh⟩,fun hh=>hh.2⟩
 .rw [Vs (by simpa using h)];simp;omega
def Lf (next:List (List Int)) (a:List Bool):Nat -> List Bool
 | 0=>(List.range next.length).map fun i=>a.getD i false
 | m+1=>sM next (Lf next a m)
theorem m9 (next:List (List Int)) (a:List Bool):∀ m,(Lf next a m).length=next.length
 | 0=>by simp [Lf]
 | m+1=>xI _ _
theorem tX (next:List (List Int)) (a:List Bool) (i:Nat):(Lf next a 0).getD i false=true ↔ i<next.length /\ a.getD i false=true:=by
 rw [Lf,List.getD,Ve];rcases Vv i next.length with h|h
 .rw [Ws h];simp [h]
 .rw [Vs (by simpa using h)];simp;omega
theorem w6 (next:List (List Int)) (a:List Bool):∀ m i,JT next a i -> (Lf next a m).getD i false=true
 | 0,i,h=>by
  obtain ⟨S,h1,h2⟩:=h;obtain ⟨h3,h4,_⟩:=h2 i h1;exact (tX next a i).2 ⟨h3,h4⟩
 | m+1,i,h=>by
  rw [Lf,LL];obtain ⟨S,h1,h2⟩:=h;obtain ⟨h3,h4,k,h5,h6⟩:=h2 i h1;exact ⟨h3,w6 next a m i ⟨S,h1,h2⟩,k,h5,w6 next a m k ⟨S,h6,h2⟩⟩
theorem Ft (next:List (List Int)) (a out:List Bool) (h:∀ i,out.getD i false=true -> i<next.length /\ a.getD i false=true /\ ∃ k,ny next i k /\ out.getD k false=true):∀ i,out.getD i false=true -> JT next a i:=
 fun i hi=>⟨fun j=>out.getD j false=true,hi,fun j hj=>h j hj⟩
def k5 (a b:List Bool):List Bool:=(List.range (max a.length b.length)).map fun i=>a.getD i false && b.getD i false
theorem gX (a b:List Bool) (i:Nat):(k5 a b).getD i false=(a.getD i false && b.getD i false):=by
 unfold k5;rw [List.getD,Ve];rcases Vv i (max a.length b.length) with h|h
 .rw [Ws h];rfl
 .rw [Vs (by simpa using h),List.getD,Vs (by omega)];rfl
end
section
abbrev iA (l:List Bool):List (List AV):=l.map fun b=>[eB b]
abbrev ji (l:List Bool):AV:=.sl 1 (iA l)
abbrev Cy (next:List (List Int)):List (List AV):=next.map fun r=>[sI r]
abbrev lZ (next:List (List Int)):AV:=.sl 1 (Cy next)
structure xb (next:List (List Int)):Prop where
 len:next.length<=200
 row:∀ r ∈ next,r.length<=4000
 ok:∀ r ∈ next,∀ x ∈ r,aI x
def eu (new old:List Bool) (j:Nat):List Bool:=new.take j ++ old.drop j
theorem od {new old:List Bool} (h:new.length=old.length) {j:Nat} (hj:j<=old.length):(eu new old j).length=old.length:=by simp [eu];omega
theorem wW {new old:List Bool} (h:new.length=old.length) {j:Nat} (hj:j<old.length):(iA (eu new old j))[j]?.getD []=[eB (old.getD j false)]:=by
 have h1:(eu new old j)[j]? = some old[j]:=by
  unfold eu;rw [VO (by simp;omega)];simp only [Vr,VV];rw [show j+(j - min j new.length)=j by omega,f4 hj]
 simp [h1,List.getD,hj]
theorem so {new old:List Bool} (h:new.length=old.length) {j:Nat} (hj:j<old.length):(iA (eu new old j)).set j [eB (new.getD j false)]=iA (eu new old (j+1)):=by
 have h1:new.getD j false=new[j]'(by omega):=by simp [List.getD,show j<new.length by omega]
 have h2:eu new old j=new.take j ++ old[j] :: old.drop (j+1):=by rw [eu,List.getElem_cons_drop]
 have h3:eu new old (j+1)=new.take j ++ new[j]'(by omega) :: old.drop (j+1):=by rw [eu,Vk (by omega),VZ,List.singleton_append]
 rw [h1,h2,h3];simp only [VE,VY];rw [List.set_append_right _ _ (by simp;omega)];simp [Nat.min_eq_left (show j<=new.length by omega)]
theorem G4 {new old:List Bool} (h:new.length=old.length) {j:Nat} (hj:j<old.length) {v:Bool} (hv:new.getD j false=v):(eu new old j).set j v=eu new old (j+1):=by
 have h1:v=new[j]'(by omega):=by rw [<- hv];simp [List.getD,show j<new.length by omega]
 have h2:eu new old j=new.take j ++ old[j] :: old.drop (j+1):=by rw [eu,List.getElem_cons_drop]
 have h3:eu new old (j+1)=new.take j ++ new[j]'(by omega) :: old.drop (j+1):=by rw [eu,Vk (by omega),VZ,List.singleton_append]
 rw [h1,h2,h3,List.set_append_right _ _ (by simp;omega),Vr,Nat.min_eq_left (by omega),Nat.sub_self];rfl
theorem HA {new old:List Bool} (h:new.length=old.length) {j:Nat} (hj:j<old.length):(eu new old j)[j]? = some (old.getD j false):=by
 unfold eu;rw [VO (by simp;omega)];simp only [Vr,VV];rw [show j+(j - min j new.length)=j by omega,f4 hj];simp [List.getD,hj]
theorem oi {new old:List Bool} (h:new.length=old.length):eu new old old.length=new:=by simp [eu,VK (Nat.le_of_eq h)]
theorem mL (new old:List Bool):eu new old 0=old:=by simp [eu]
theorem KQ {X:List Bool} {i:Nat} {v:Bool} (h:X[i]? = some v):X.set i v=X:=by
 obtain ⟨h1,rfl⟩:=Vd.1 h;exact List.set_getElem_self h1
theorem KW {X:List Bool} {i:Nat} (v:Bool) (h:i<X.length):(iA (X.set i v))[i]?.getD []=[eB v]:=by simp [h]
theorem AQ (X:List Bool) (i:Nat) (v u:Bool):(iA (X.set i v)).set i [eB u]=iA (X.set i u):=by
 rw [<- WK,List.set_set]
theorem rx (X:List Bool) (i:Nat) (u:Bool):(iA X).set i [eB u]=iA (X.set i u):=by rw [<- WK]
theorem BJ {n:Nat} {a:List Bool} {q:List Int} {j:Nat} (h:j<q.length):f7 n a (q.take (j+1))=(f7 n a (q.take j) || (decide (q[j]<(n:Int)) && t6 a q[j])):=by
 unfold f7;rw [Vk h,List.any_append];simp
theorem ML {next:List (List Int)} {a:List Bool} {k:Nat} (h:k<next.length):(ud next a).getD k false=f7 next.length a next[k]:=by simp [ud,List.getD,h]
theorem OE {n k:Nat} (h:k<n):(List.replicate n false).getD k false=false:=by simp [List.getD,h]
theorem dz (l:List Bool):∀ row ∈ iA l,∀ a ∈ row,AV.plain a:=by
 intro row hr a ha;obtain ⟨b,_,rfl⟩:=Vt.1 hr;simp at ha;subst ha;trivial
theorem uS (a:List Bool) (i:Int) (ha:a.length<=1000000000):aw Tryz.prog 93 [ji a,eI i] (val (.bool (t6 a i))):=by
 refine aa ag Tryz.func93 rfl (by decide) Tryz.ntmps93 Tryz.results93 rfl (aL _) ?_;by_cases h0:0<=i
 .obtain ⟨q,rfl⟩:∃ q:Nat,i=(q:Int):=⟨i.toNat,by omega⟩;rw [jz];by_cases h1:q<a.length
  .obtain ⟨x,hx⟩:∃ x,x=a[q]:=⟨_,rfl⟩;have hrow:(a.map fun b=>[eB b])[q]?.getD []=[eB x]:=by rw [hx];simp [h1]
   have hg:a.getD q false=x:=by rw [hx];simp [List.getD,h1]
   rw [hg]
   repeat' first|refine ge (kf @hrow h1) ?_|decide|refine sp ?_ ?_<;>intro _
   all_goals first|rfl|(simp_all;done)
  .have hg:a.getD q false=false:=by rw [Vl,Vs (by omega)];rfl
   rw [hg]
   repeat' first|refine ge h1 ?_|decide|refine sp ?_ ?_<;>intro _
   all_goals first|rfl|(simp_all;done)
 .have hg:t6 a i=false:=by simp [t6,h0]
  have d:decide (0<=i)=false:=by simpa using h0
  rw [hg]
  repeat' first|refine ge d ?_|decide|refine sp ?_ ?_<;>intro _
  all_goals first|rfl|(simp_all;done)
theorem HC (next:List (List Int)) (i:Int) (hl:next.length<=1000000000):aw Tryz.prog 94 [lZ next,eI i] (val (.bool (decide (0<=i) && decide (i<(next.length:Int))))):=by
 refine aa ag Tryz.func94 rfl (by decide) Tryz.ntmps94 Tryz.results94 rfl (aL _) ?_;by_cases h0:0<=i
 .have d:decide (0<=i)=true:=VC h0;rw [d,V4]
  repeat' first|refine ge d ?_|decide|refine sp ?_ ?_<;>intro _
  all_goals first|rfl|(simp_all;done)
 .have d:decide (0<=i)=false:=Vu h0;rw [d,Wf]
  repeat' first|refine ge d ?_|decide|refine sp ?_ ?_<;>intro _
  all_goals first|rfl|(simp_all;done)
theorem Uk (a:List Bool) (ha:a.length<=1000000):aw Tryz.prog 43 [ji a] (iZ 4 1 (iA (a.map (!·)))):=by
 refine aa ag Tryz.func43 rfl (by decide) Tryz.ntmps43 Tryz.results43 rfl (cT _ _ _) ?_;obtain ⟨N,hN⟩:∃ N,N=a.map (!·):=⟨_,rfl⟩;have hF:(List.replicate a.length false).length=a.length:=by simp
 obtain ⟨F,hFe⟩:∃ F,F=List.replicate a.length false:=⟨_,rfl⟩;have hF0:iA F=List.replicate a.length [eB false]:=by rw [hFe];simp
 rw [<- hFe] at hF;have hNl:N.length=F.length:=by rw [hN,Vo,hF]
 have hg:∀ k (h:k<a.length),N.getD k false = !a[k]:=fun k h=>by rw [hN];simp [List.getD,h]
 rw [<- hN]
 repeat' first|refine go ?_|decide|refine sp ?_ ?_<;>intro _
 refine ⟨⟨by omega,by omega⟩,?_⟩;refine af (fun st=>∃ k:Nat,k<=a.length /\ st=⟨23,[(3,.osl 0),(9,ji a),(10,eI (a.length:Int)),(11,eI (k:Int))],[(0,some (.row 4 1 (iA (eu N F k))))],1⟩) (fun st=>a.length - ax st 11) ⟨_,(wE (kf @mL hF0)),0,Vg _,rfl⟩ ?_;rintro _ ⟨k,hk,rfl⟩;have hul:=od hNl (j:=k) (by omega);by_cases hlt:k<a.length
 .obtain ⟨x,hx⟩:∃ x,x=a[k]:=⟨_,rfl⟩;have hrow:(a.map fun b=>[eB b])[k]?.getD []=[eB x]:=by rw [hx];simp [hlt]
  have d3:k<(eu N F k).length:=by omega
  have r1:=wW hNl (j:=k) (by omega);have hset:=so hNl (j:=k) (by omega);rw [hg k hlt,<- hx] at hset
  repeat' first|refine gf (kf @hrow (kf @hlt (kf d3 (kf r1 @hset)))) ?_|decide|refine sp ?_ ?_<;>intro _
  all_goals exact rI (wE @hset) ⟨k+1,by omega,rfl⟩
 .obtain rfl:k=a.length:=by omega
  have e1:eu N F a.length=N:=by rw [<- hF];exact oi hNl
  rw [e1]
  repeat' first|refine gf @hlt ?_|decide|refine sp ?_ ?_<;>intro _
  all_goals exact aY (by simp [ae.gc])
end
section
theorem TC (a b:List Bool) (ha:a.length<=1000000) (hb:b.length<=1000000):aw Tryz.prog 44 [ji a,ji b] (iZ 4 1 (iA (k5 a b))):=by
 refine aa ag Tryz.func44 rfl (by decide) Tryz.ntmps44 Tryz.results44 rfl (cT _ _ _) ?_;obtain ⟨M,hM⟩:∃ M:Nat,M=max a.length b.length:=⟨_,rfl⟩;have hMi:(if (b.length:Int) > (a.length:Int) then (b.length:Int) else (a.length:Int))=(M:Int):=by rw [hM];split<;>omega
 have hMj:max (a.length:Int) (b.length:Int)=(M:Int):=by rw [hM];omega
 obtain ⟨N,hN⟩:∃ N,N=k5 a b:=⟨_,rfl⟩;have hF:(List.replicate M false).length=M:=by simp
 obtain ⟨F,hFe⟩:∃ F,F=List.replicate M false:=⟨_,rfl⟩;have hF0:iA F=List.replicate M [eB false]:=by rw [hFe];simp
 rw [<- hFe] at hF;have hNl:N.length=F.length:=by rw [hN,hF,hM];simp [k5]
 have hg:∀ k,N.getD k false=(a.getD k false && b.getD k false):=fun k=>by rw [hN,gX]
 rw [<- hN]
 repeat' first|refine ge (kf @hMi @hMj) ?_|decide|refine sp ?_ ?_<;>intro _
 refine ⟨⟨by omega,by omega⟩,?_⟩;refine af (fun st=>∃ k:Nat,k<=M /\ st=⟨31,[(0,ji a),(1,ji b),(5,.osl 0),(14,eI (M:Int)),(15,eI (k:Int))],[(0,some (.row 4 1 (iA (eu N F k))))],1⟩) (fun st=>M - ax st 15) ⟨_,(wE (kf @mL hF0)),0,Vg _,rfl⟩ ?_;rintro _ ⟨k,hk,rfl⟩;have hul:=od hNl (j:=k) (by omega);by_cases hlt:k<M
 .have d3:k<(eu N F k).length:=by omega
  have r1:=wW hNl (j:=k) (by omega);have hset:=so hNl (j:=k) (by omega);have hIa:=uS a (k:Int) (by omega);have hIb:=uS b (k:Int) (by omega);rw [jz] at hIa hIb;rw [hg k] at hset;obtain ⟨x,hx1⟩:∃ x,x=a.getD k false:=⟨_,rfl⟩;obtain ⟨y,hy1⟩:∃ y,y=b.getD k false:=⟨_,rfl⟩;rw [<- hx1] at hIa hset;rw [<- hy1] at hIb hset;cases x<;>simp only [V4,Wf] at hset
  all_goals
   repeat' first|refine gf (kf @hlt (kf d3 (kf r1 @hset))) ?_|decide|refine sp ?_ ?_<;>intro _|refine cA hIa ?_|refine cA hIb ?_|fail
   all_goals exact rI (wE @hset) ⟨k+1,by omega,rfl⟩
 .obtain rfl:k=M:=by omega
  have e1:eu N F k=N:=by rw [<- hF];exact oi hNl
  rw [e1]
  repeat' first|refine gf @hlt ?_|decide|refine sp ?_ ?_<;>intro _
  all_goals exact aY (by simp [ae.gc])
theorem UK (next:List (List Int)) (a:List Bool) (hx:xb next) (ha:a.length<=1000000):aw Tryz.prog 45 [lZ next,ji a] (iZ 4 1 (iA (ud next a))):=by
 refine aa ag Tryz.func45 rfl (by decide) Tryz.ntmps45 Tryz.results45 rfl (cT _ _ _) ?_;have hnl:=hx.len;obtain ⟨N,hN⟩:∃ N,N=ud next a:=⟨_,rfl⟩;have hNl:N.length=(List.replicate next.length false).length:=by rw [hN];simp [ud]
 have hF:(List.replicate next.length false).length=next.length:=by simp
 obtain ⟨F,hFe⟩:∃ F,F=List.replicate next.length false:=⟨_,rfl⟩;have hF0:iA F=List.replicate next.length [eB false]:=by rw [hFe];simp
 rw [<- hFe] at hNl hF;have hg:∀ k (h:k<next.length),N.getD k false=f7 next.length a next[k]:=fun k h=>by rw [hN,ML h]
 have hf:∀ k,k<next.length -> F.getD k false=false:=fun k h=>by rw [hFe,OE h]
 rw [<- hN]
 repeat' first|refine go ?_|decide|refine sp ?_ ?_<;>intro _
 refine ⟨⟨by omega,by omega⟩,?_⟩;refine af (fun st=>∃ k:Nat,k<=next.length /\ st=⟨46,[(0,lZ next),(1,ji a),(5,.osl 0),(13,lZ next),(14,eI (next.length:Int)),(15,eI (k:Int))],[(0,some (.row 4 1 (iA (eu N F k))))],1⟩) (fun st=>next.length - ax st 15) ⟨_,(wE (kf @mL hF0)),0,Vg _,rfl⟩ ?_;rintro _ ⟨k,hk,rfl⟩;by_cases hlt:k<next.length
 .obtain ⟨q,hq⟩:∃ q,q=next[k]:=⟨_,rfl⟩;have hrow:(Cy next)[k]?.getD []=[sI q]:=by rw [hq];simp [Cy,hlt]
  have hql:q.length<=4000:=by rw [hq];exact hx.row _ (Vf hlt)
  have hul:(eu N F k).length=next.length:=by rw [od hNl (by omega)];exact hF
  have hs0:(eu N F k).set k (f7 next.length a (q.take 0))=eu N F k:=KQ (by rw [HA hNl (by omega),hf k hlt];rfl);have hs1:(eu N F k).set k (f7 next.length a (q.take q.length))=eu N F (k+1):=G4 hNl (by omega) (by rw [hg k hlt,Vq,hq]);obtain ⟨X,hX⟩:∃ X,X=eu N F k:=⟨_,rfl⟩;rw [<- hX] at hul hs0 hs1 ⊢
  repeat' first|refine ge (kf @hrow @hlt) ?_|decide|refine sp ?_ ?_<;>intro _
  refine af (fun st=>∃ j:Nat,j<=q.length /\ st=⟨46,[(0,lZ next),(1,ji a),(5,.osl 0),(13,lZ next),(14,eI (next.length:Int)),(15,eI (k:Int)),(6,eI (k:Int)),(20,sI q),(21,eI (q.length:Int)),(22,eI (j:Int))],[(0,some (.row 4 1 (iA (X.set k (f7 next.length a (q.take j))))))],1⟩) (fun st=>q.length - ax st 22) ⟨_,(wE hs0),0,Vg _,rfl⟩ ?_;rintro _ ⟨j,hj,rfl⟩;by_cases hlt2:j<q.length
  .obtain ⟨x,hx2⟩:∃ x,x=q[j]:=⟨_,rfl⟩;have hrj:(q.map fun n=>[eI n])[j]?.getD []=[eI x]:=by rw [hx2];simp [hlt2]
   have ea:=BJ (n:=next.length) (a:=a) hlt2;rw [<- hx2] at ea;have hI:=uS a x (by omega);have hP:=HC next x (by omega);obtain ⟨v,hv⟩:∃ v,v=f7 next.length a (q.take j):=⟨_,rfl⟩;have hkx:k<(X.set k v).length:=by rw [VS];omega
   have hcg:=KW v (show k<X.length by omega);have hct:=AQ X k v true;have hcf:=AQ X k v false
   have hpa:(decide (x<(next.length:Int)) && t6 a x)=((decide (0<=x) && decide (x<(next.length:Int))) && t6 a x):=by
    by_cases h0:0<=x
    .simp [h0]
    .simp [h0,t6]
   rw [hpa] at ea;obtain ⟨p,hp⟩:∃ p,p=(decide (0<=x) && decide (x<(next.length:Int))):=⟨_,rfl⟩;obtain ⟨y,hy⟩:∃ y,y=t6 a x:=⟨_,rfl⟩;rw [<- hv,<- hp,<- hy] at ea;rw [<- hp] at hP;rw [<- hy] at hI;rw [<- hv];cases v<;>cases p<;>cases y<;>simp only [Bool.true_or,Bool.false_or,V4,Wf] at ea
   all_goals
    repeat' first|refine gf (kf @hrow (kf @hlt (kf @hrj (kf @hlt2 (kf @hkx (kf @hcg (kf @hct @hcf))))))) ?_|decide|refine sp ?_ ?_<;>intro _|refine cA hP ?_|refine cA hI ?_|fail
    all_goals exact rI (wE (kf ea (kf @hct @hcf))) ⟨j+1,by omega,rfl⟩
  .obtain rfl:j=q.length:=by omega
   rw [hs1]
   repeat' first|refine gf (kf @hrow (kf @hlt @hlt2)) ?_|decide|refine sp ?_ ?_<;>intro _
   all_goals exact rI wC ⟨k+1,by omega,rfl⟩
 .obtain rfl:k=next.length:=by omega
  have e1:eu N F next.length=N:=by rw [<- hF];exact oi hNl
  rw [e1]
  repeat' first|refine gf @hlt ?_|decide|refine sp ?_ ?_<;>intro _
  all_goals exact aY (by simp [ae.gc])
end
section
def RB (w:World) (v:Value) (l:List Bool):Prop:=(aF qq).one w (fun b=>b<w.heap.size) v l
theorem RB.below {w w':World} {v:Value} {l:List Bool} (h:RB w v l) (hb:Below w.heap.size w w'):RB w' v l:=dg (dx h hb fun b h=>h) fun b h=>Vm h hb.size
theorem RB.form {w:World} {v:Value} {l:List Bool} (h:RB w v l):∃ A c,v=.slice A l.length c /\ l.length<=c:=by
 obtain ⟨A,c,h1,h2,_⟩:=cB h;exact ⟨A,c,h1,h2⟩
theorem RB.at_ {w:World} {A:Option Addr} {n c:Nat} {l:List Bool} (h:RB w (.slice A n c) l) {k:Nat} (hk:k<l.length) :
  ∃ b o,A=some ⟨b,o,none⟩ /\ w.cell? ⟨b,o+k,none⟩=some (.bool (l.getD k false)):=by
 obtain ⟨b,o,rfl,hb,_⟩:=db h (by omega);have:=LS h hk;rw [List.getD,f4 hk];exact ⟨b,o,rfl,this⟩
theorem RB.own {w:World} {base:Nat} {v:Value} {n:Nat} {l:List Bool} (h:w.ownsRow base 4 1 v n (l.map Value.bool)):RB w v l:=
 dg (nI (r:=qq) _ h rfl fun a ha=>rfl) fun b h=>h.2
def RR (w:World) (v:Value) (l:List (List Int)):Prop:=(aF (aF (eh .i64))).one w (fun b=>b<w.heap.size) v l
theorem RR.below {w w':World} {v:Value} {l:List (List Int)} (h:RR w v l) (hb:Below w.heap.size w w'):RR w' v l:=dg (dx h hb fun b h=>h) fun b h=>Vm h hb.size
theorem RR.form {w:World} {v:Value} {l:List (List Int)} (h:RR w v l):∃ A c,v=.slice A l.length c /\ l.length<=c:=by
 obtain ⟨A,c,h1,h2,_⟩:=cB h;exact ⟨A,c,h1,h2⟩
theorem RR.at_ {w:World} {A:Option Addr} {n c:Nat} {l:List (List Int)} (h:RR w (.slice A n c) l) {k:Nat} (hk:k<l.length) :
  ∃ b o A' c',A=some ⟨b,o,none⟩ /\ w.cell? ⟨b,o+k,none⟩=some (.slice A' (l.getD k []).length c') /\ (l.getD k []).length<=c' /\ c'<=9223372036854775807 /\ RI w (.slice A' (l.getD k []).length c') (l.getD k []):=by
 obtain ⟨b,o,rfl,hb,_⟩:=db h (by omega);have:=DQ h hk;rw [List.getD,f4 hk];obtain ⟨A',c',h1,h2,h3,h4⟩:=this;exact ⟨b,o,A',c',rfl,h1,h2,h3,h4⟩
theorem MD:(Tryz.prog.info? 87).map (fun i=>(i.zero,i.size,i.bytes))=some (some (.slice none 0 0),1,24):=by kernel_rfl
theorem sR (next:List (List Int)) (v:Value) (i:Int) (w:World) (hl:next.length<=9223372036854775807) (hv:RR w v next) :
  Calls Tryz.prog 94 #[v,.int .i64 i] w fun e w'=>e=.returned (.bool (decide (0<=i /\ i<(next.length:Int)))) /\ w=w':=by
 obtain ⟨A,c,rfl,hc⟩:=hv.form;by_cases h0:0<=i
 .by_cases h1:i<(next.length:Int)
  .rw [VC (show 0<=i /\ i<(next.length:Int) from ⟨h0,h1⟩)]
   go_enter Tryz.func94,Tryz.ntmps94
   go_wp2_with fail
   go_ret
   exact ⟨by simp_all,rfl⟩
  .rw [Vu (show ¬ (0<=i /\ i<(next.length:Int)) from fun h=>h1 h.2)]
   go_enter Tryz.func94,Tryz.ntmps94
   go_wp2_with fail
   go_ret
   exact ⟨by simp_all,rfl⟩
 .rw [Vu (show ¬ (0<=i /\ i<(next.length:Int)) from fun h=>h0 h.1)]
  go_enter Tryz.func94,Tryz.ntmps94
  go_wp2_with fail
  go_ret
  exact ⟨by simp_all,rfl⟩
end
section
def OB (w:World) (base:Nat) (v:Value) (l:List Bool):Prop:=w.ownsRow base 4 1 v l.length (l.map Value.bool)
theorem OB.made (w:World) (n:Nat) (hn:n<=9223372036854775807):OB (w.alloc (.cells (madeCells #[.bool false] n) 4)) w.heap.size (.slice (some ⟨w.heap.size,0,none⟩) n n) (List.replicate n false):=by
 have:=World.ownsRow_lit (e:=4) (size:=1) (base:=w.heap.size) w (madeCells #[.bool false] n) n (Os _) (by simpa [maxLen] using hn) (by rw [size_madeCells,Nat.mul_one]);rw [toList_madeCells_one] at this;unfold OB;rw [List.length_replicate,List.map_replicate];exact this
theorem OB.cell {w:World} {base g n c:Nat} {l:List Bool} (h:OB w base (.slice (some ⟨g,0,none⟩) n c) l) {k:Nat} (hk:k<l.length):w.cell? ⟨g,k,none⟩=some (.bool (l.getD k false)):=by
 have hn:n=l.length:=by
  obtain ⟨A,c',e,_⟩:=eV h;cases e;rfl
 subst hn;refine iq h rfl ?_;rw [Ve,List.getD,f4 hk];rfl
theorem OB.frozen {w:World} {base g n c:Nat} {l:List Bool} (h:OB w base (.slice (some ⟨g,0,none⟩) n c) l) (k:Nat):w.frozen? ⟨g,k,none⟩=false:=by
 have hn:n=l.length:=by
  obtain ⟨A,c',e,_⟩:=eV h;cases e;rfl
 subst hn;exact World.ownsRow.frozenAt h k
theorem OB.set {w:World} {base g n c:Nat} {l:List Bool} (h:OB w base (.slice (some ⟨g,0,none⟩) n c) l) (k:Nat) (x:Bool):OB (w.setCell ⟨g,k,none⟩ (.bool x)) base (.slice (some ⟨g,0,none⟩) n c) (l.set k x):=by
 have hn:n=l.length:=by
  obtain ⟨A,c',e,_⟩:=eV h;cases e;rfl
 subst hn;have:=(World.ownsRow.stored h k (.bool x)).1;unfold OB;rw [VS,WK];exact this
theorem bT (l:List Bool) (k:Nat) (x:Bool) (h:k<l.length) (j:Nat):(l.set k x).getD j false=if j=k then x else l.getD j false:=by
 simp only [List.getD,Wz];by_cases e:j=k
 .subst e;simp [h]
 .rw [Vh (fun h=>e h.symm),Vh e]
theorem o0 (n j:Nat):(List.replicate n false).getD j false=false:=by
 rw [List.getD,W9];split<;>rfl
theorem xF {a b:List Bool} (hl:a.length=b.length) (h:∀ j,j<a.length -> a.getD j false=b.getD j false):a=b:=by
 apply Xw hl;intro i h1 h2;have:=h i h1
 rwa [List.getD,f4 h1,List.getD,f4 h2] at this
end
section
theorem Nv (next:List (List Int)) (a:List Bool) (k:Nat) (h:k<next.length):(ud next a).getD k false=f7 next.length a (next.getD k []):=by
 unfold ud;rw [List.getD,Ve,f4 h,List.getD,f4 h];rfl
theorem tR (n:Nat) (a:List Bool) (row:List Int) (m:Nat) (h:m<row.length):f7 n a (row.take (m+1))=(f7 n a (row.take m) || (decide (row.getD m 0<(n:Int)) && t6 a (row.getD m 0))):=by
 rw [Vk h,f7,List.any_append,List.getD,f4 h];simp [f7]
structure qc (next:List (List Int)) (a:List Bool) (k m:Nat) (L:List Bool):Prop where
 len:L.length=next.length
 pre:∀ j,j<k -> L.getD j false=(ud next a).getD j false
 cur:L.getD k false=f7 next.length a ((next.getD k []).take m)
 post:∀ j,k<j -> L.getD j false=false
theorem qc.start (next:List (List Int)) (a:List Bool):qc next a 0 0 (List.replicate next.length false):=
 ⟨by simp,fun j h=>by omega,by rw [o0];simp [f7],fun j _=>o0 _ _⟩
theorem qc.next {next:List (List Int)} {a:List Bool} {k m:Nat} {L:List Bool} (h:qc next a k m L) (hk:k<next.length) (hm:m<(next.getD k []).length) (x:Bool)
  (hx:x=(L.getD k false || (decide ((next.getD k []).getD m 0<(next.length:Int)) && t6 a ((next.getD k []).getD m 0)))):qc next a k (m+1) (L.set k x):=by
 refine ⟨by rw [VS,h.len],fun j hj=>?_,?_,fun j hj=>?_⟩
 .rw [bT _ _ _ (by rw [h.len];exact hk),Vh (by omega)];exact h.pre j hj
 .rw [bT _ _ _ (by rw [h.len];exact hk),Vn rfl,hx,tR _ _ _ _ hm,h.cur]
 .rw [bT _ _ _ (by rw [h.len];exact hk),Vh (by omega)];exact h.post j hj
theorem qc.same {next:List (List Int)} {a:List Bool} {k m:Nat} {L:List Bool} (h:qc next a k m L) (hm:m<(next.getD k []).length)
  (hx:(decide ((next.getD k []).getD m 0<(next.length:Int)) && t6 a ((next.getD k []).getD m 0))=false):qc next a k (m+1) L:=
 ⟨h.len,h.pre,by rw [tR _ _ _ _ hm,hx,Bool.or_false];exact h.cur,h.post⟩
theorem qc.row {next:List (List Int)} {a:List Bool} {k:Nat} {L:List Bool} (h:qc next a k (next.getD k []).length L) (hk:k<next.length):qc next a (k+1) 0 L:=by
 refine ⟨h.len,fun j hj=>?_,?_,fun j hj=>h.post j (by omega)⟩
 .by_cases e:j=k
  .subst e;rw [h.cur,Vq,Nv _ _ _ hk]
  .exact h.pre j (by omega)
 .rw [h.post (k+1) (by omega)];simp [f7]
theorem qc.done {next:List (List Int)} {a:List Bool} {m:Nat} {L:List Bool} (h:qc next a next.length m L):L=ud next a:=
 xF (by rw [h.len,nM]) fun j hj=>h.pre j (by rw [h.len] at hj;exact hj)
end
section
structure Q9 (old new:List Bool) (k:Nat) (L:List Bool) (s:Bool):Prop where
 len:L.length=old.length
 lenN:new.length=old.length
 pre:∀ j,j<k -> L.getD j false=new.getD j false
 post:∀ j,k<=j -> L.getD j false=old.getD j false
 same:s=true ↔ ∀ j,j<k -> new.getD j false=old.getD j false
theorem Q9.start (old new:List Bool) (h:new.length=old.length):Q9 old new 0 old true:=⟨rfl,h,fun j hj=>by omega,fun j _=>rfl,by simp⟩
theorem Q9.next {old new:List Bool} {k:Nat} {L:List Bool} {s:Bool} (h:Q9 old new k L s) (hk:k<old.length):Q9 old new (k+1) (L.set k (new.getD k false)) (s && (new.getD k false == old.getD k false)):=by
 refine ⟨by rw [VS,h.len],h.lenN,fun j hj=>?_,fun j hj=>?_,?_⟩
 .rw [bT _ _ _ (by rw [h.len];exact hk)];split
  .rename_i e;rw [e]
  .exact h.pre j (by omega)
 .rw [bT _ _ _ (by rw [h.len];exact hk),Vh (by omega)];exact h.post j (by omega)
 .rw [Vw,h.same,Wv];constructor
  .rintro ⟨h1,h2⟩ j hj;by_cases e:j=k
   .rw [e];exact h2
   .exact h1 j (by omega)
  .intro h1;exact ⟨fun j hj=>h1 j (by omega),h1 k (by omega)⟩
theorem Q9.done {old new:List Bool} {L:List Bool} {s:Bool} (h:Q9 old new old.length L s):L=new /\ (s=true -> new=old) /\ (s=false -> new ≠ old):=by
 refine ⟨xF (by rw [h.len,h.lenN]) fun j hj=>h.pre j (by rw [h.len] at hj;exact hj),fun e=>xF h.lenN fun j hj=>h.same.1 e j (by rw [h.lenN] at hj;exact hj),fun e e2=>?_⟩;have:=h.same.2 (fun j _=>by rw [e2]);rw [e] at this;simp at this
theorem OB.below {w w':World} {base:Nat} {v:Value} {l:List Bool} (h:OB w base v l) (hb:Below w.heap.size w w'):OB w' base v l:=r4 h hb
theorem OB.far {w:World} {base:Nat} {v:Value} {l:List Bool} (h:OB w base v l) {p:Addr} (hp:p.block<base) (u:Value):OB (w.setCell p u) base v l:=kP h hp u
end
section
def iM (w:World) (g:Nat) (F:List Int):Prop:=∃ v,jj w g 176 #[v] /\ w.ownsRow (g+1) 3 1 v F.length (F.map (Value.int .i64))
theorem iM.lt {w:World} {g:Nat} {F:List Int} (h:iM w g F):g<w.heap.size:=by
 obtain ⟨v,h1,_⟩:=h;exact h1.lt
theorem iM.new (w:World):iM (w.alloc (.cells #[.slice none 0 0] 176)) w.heap.size []:=
 ⟨_,jj.new _ _ _,World.ownsRow_nil _ _ _ _⟩
theorem iM.far {w:World} {g:Nat} {F:List Int} (h:iM w g F) {p:Addr} (hp:p.block<g) (u:Value):iM (w.setCell p u) g F:=by
 obtain ⟨v,h1,h2⟩:=h;exact ⟨v,h1.far (by omega) u,kP h2 (by omega) u⟩
end
end
end Go.Proofs.YtmmoidfcfjklaaaGreat
