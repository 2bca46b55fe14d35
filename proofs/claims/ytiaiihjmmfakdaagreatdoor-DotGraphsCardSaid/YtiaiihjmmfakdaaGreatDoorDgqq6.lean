/-
  Parts of the proof: Dgqp13, Dgqp14, Dgqp15, Dgqp16, Dgqp17, Dgqp18, Dgqp19.
-/
import Derived.Test.YtiaiihjmmfakdaaGreatDoorDgqq5
import Derived.Test.YtiaiihjmmfakdaaGreatDoorProg
import Derived.WalkKit
import Derived.Deep.OwnRows
import Derived.Deep.RegionWith
set_option linter.unusedVariables false
set_option linter.unusedSimpArgs false
set_option linter.defProp false
set_option maxRecDepth 100000
set_option maxHeartbeats 16000000
namespace Go.Proofs.YtiaiihjmmfakdaaGreatDoor
open Go.RowKit
section
section
def cj (r:Int):Int:=2 ^ (min r.toNat 20) - 1
theorem qQ (r:Int):aw Tryz.prog 148 [eI r] (val (.int .i64 (cj r))):=by
 refine ab ah Tryz.func148 rfl (by decide) Tryz.ntmps148 Tryz.results148 rfl (aU _) ?_
 repeat' first|refine go ?_|decide|refine sp ?_ ?_<;>intro _
 refine af (fun st=>∃ k:Nat,k<=20 /\ (k=0 \/ (k:Int)<=r) /\ st=⟨18,[(0,eI r),(3,eI (2 ^ k - 1)),(4,eI (k:Int))],[],0⟩) (fun st=>20 - ap st 4) ⟨_,wC,0,KR _,.inl rfl,rfl⟩ ?_;rintro _ ⟨k,hk,hr,rfl⟩
 have hp:(2:Int) ^ k<=1048576:=by
  have h1:(2:Nat) ^ k<=2 ^ 20:=Lu (by omega) hk;have h2:((2 ^ k:Nat):Int)=(2:Int) ^ k:=by simp
  omega
 have hp0:(0:Int)<2 ^ k:=MS (by omega);have hps:(2:Int) ^ (k+1)=2 * 2 ^ k:=by rw [Int.pow_succ,Int.mul_comm]
 have ew1:IntKind.i64.wrap (2 * (2 ^ k - 1))=2 * (2 ^ k - 1):=ay (by omega) (by omega);have ew2:IntKind.i64.wrap (2 * (2 ^ k - 1)+1)=2 ^ (k+1) - 1:=by rw [ay (by omega) (by omega)];omega
 by_cases h1:(k:Int)<r
 .by_cases h2:k<20
  .have d1:decide ((k:Int)<r)=true:=(by simpa using h1);have d2:decide ((k:Int)<20)=true:=by simp only [Lp];omega
   repeat' first|refine gf (kf d1 (kf d2 (kf ew1 ew2))) ?_|decide|refine sp ?_ ?_<;>intro _
   exact rI wC ⟨k+1,by omega,by omega,rfl⟩
  .have d1:decide ((k:Int)<r)=true:=(by simpa using h1);have d2:decide ((k:Int)<20)=false:=by simp only [Lc];omega
   repeat' first|refine gf (kf d1 d2) ?_|decide|refine sp ?_ ?_<;>intro _
   unfold cj;rw [show min r.toNat 20=k by omega]
 .have d1:decide ((k:Int)<r)=false:=by simpa using h1
  repeat' first|refine gf d1 ?_|decide|refine sp ?_ ?_<;>intro _
  unfold cj;rw [show min r.toNat 20=k by omega]
def lx (a b m:Int):Int:=max 0 (min (b - a - 1) m)
theorem F4 (a b m:Int) (ha:aq a) (hb:aq b) (hm:m<=4294967296):aw Tryz.prog 147 [eI a,eI b,eI m] (val (.int .i64 (lx a b m))):=by
 refine ab ah Tryz.func147 rfl (by decide) Tryz.ntmps147 Tryz.results147 rfl (aU _) ?_
 repeat' first|refine go ?_|decide|refine sp ?_ ?_<;>intro _
 unfold aq at ha hb;refine af (fun st=>∃ (k:Nat) (a':Int),(k:Int)<=lx a b m /\ a'=a+k /\ st=⟨27,[(0,eI a'),(1,eI b),(2,eI m),(7,eI (k:Int))],[],0⟩) (fun st=>m.toNat - ap st 7) ⟨_,wC,0,a,by unfold lx;omega,by omega,rfl⟩ ?_;rintro _ ⟨k,a',hk,ha',rfl⟩;by_cases h:(k:Int)<m /\ a'<b /\ a'+1<b
 .have d1:decide ((k:Int)<m)=true:=by simpa using h.1
  have d2:decide (a'<b)=true:=by simpa using h.2.1
  have d3:decide (a'+1<b)=true:=by simpa using h.2.2
  have ew:IntKind.i64.wrap (a'+1)=a'+1:=ay (by omega) (by omega)
  repeat' first|refine gf (kf d1 (kf d2 (kf ew d3))) ?_|decide|refine sp ?_ ?_<;>intro _
  exact rI wC ⟨k+1,a'+1,by unfold lx at *;omega,by omega,rfl⟩
 .have hg:(k:Int)=lx a b m:=by unfold lx at *;omega
  by_cases h1:(k:Int)<m
  .have d1:decide ((k:Int)<m)=true:=(by simpa using h1);by_cases h2:a'<b
   .have d2:decide (a'<b)=true:=(by simpa using h2);have d3:decide (a'+1<b)=false:=by simp only [Lc];omega
    have ew:IntKind.i64.wrap (a'+1)=a'+1:=ay (by omega) (by omega)
    repeat' first|refine gf (kf d1 (kf d2 (kf ew d3))) ?_|decide|refine sp ?_ ?_<;>intro _
    exact hg
   .have d2:decide (a'<b)=false:=by simpa using h2
    repeat' first|refine gf (kf d1 d2) ?_|decide|refine sp ?_ ?_<;>intro _
    exact hg
  .have d1:decide ((k:Int)<m)=false:=by simpa using h1
   repeat' first|refine gf d1 ?_|decide|refine sp ?_ ?_<;>intro _
   exact hg
theorem tG (vals c:List Int) (h1:vals.length<=400) (h2:c.length<=400):aw Tryz.prog 146 [sI vals,sI c] ⟨sI (gJ vals c),[],0⟩:=by
 have hok:(⟨sI (gJ vals c),[],0⟩:ce).Ok:=⟨fun id o h=>(by cases h),by simp [AV.lt]⟩;refine ab ah Tryz.func146 rfl (by decide) Tryz.ntmps146 Tryz.results146 rfl (hok) ?_;have hS:=eQ (vals ++ c) (by simp;omega);have em:(vals.map fun n=>[eI n]) ++ (c.map fun n=>[eI n])=(vals ++ c).map fun n=>[eI n]:=by rw [Lr]
 repeat' first|refine gf em ?_|decide|refine sp ?_ ?_<;>intro _|(with_reducible apply And.intro)
 all_goals first
  | rfl
  | omega
  | skip
 refine qH [2] (R:=⟨sI (aP (vals ++ c)),[],0⟩) ?_ ?_ ?_
 .repeat' first|decide|refine go ?_
  exact hS
 .repeat' first|decide|refine go ?_
  left;simp [gb,iv,bu,b7]
 .repeat' first|refine gq ?_|decide|refine sp ?_ ?_<;>intro _
  all_goals exact a5 (by first|rfl|simp [AV.ren,AV.renL])
def jl (x:aJ):List Int:=if gj x=true then (if x.la = -1 then [x.ln] else []) ++ (if x.ra = -1 then [x.rn] else []) else []
def bX (l:List aJ):List Int:=l.flatMap jl
theorem wt (x:aJ):(jl x).length<=2:=by
 unfold jl;split
 .split<;>split<;>simp
 .simp
theorem jH:∀ l:List aJ,(bX l).length<=2 * l.length
 | []=>by simp [bX]
 | x :: l=>by
  have h1:=wt x;have h2:=jH l;unfold bX at *;simp only [Mh,f4,KU];omega
theorem fe (l:List aJ) (hl:l.length<=1100000):aw Tryz.prog 30 [bw l] ⟨sI (aP (bX l)),[],0⟩:=by
 have hok:(⟨sI (aP (bX l)),[],0⟩:ce).Ok:=⟨fun id o h=>(by cases h),by simp [AV.lt]⟩;refine ab ah Tryz.func30 rfl (by decide) Tryz.ntmps30 Tryz.results30 rfl (hok) ?_;have hlen:=jH l;have hS:=eQ (bX l) (by omega)
 repeat' first|refine go ?_|decide|refine sp ?_ ?_<;>intro _
 refine af (fun st=>∃ k:Nat,k<=l.length /\ st=⟨59,[(0,bw l),(3,.osl 0),(4,eI (k:Int))],[(0,some (.row 2 1 ((bX (l.take k)).map fun n=>[eI n])))],1⟩) (fun st=>l.length - ap st 4) ⟨_,((bf 3 2 1 (by simp only [iu,ak.get,bl,ak.put,↓reduceIte,reduceCtorEq,Nat.reduceLT,Nat.reduceEqDiff,Nat.reduceAdd,Nat.reduceLeDiff,eq_self,implies_true,Lb,bX,LL,Lq])).trans (wS [0] (kf @Lb (kf @bX.eq_1 @LL)))),0,KR _,rfl⟩ ?_;rintro _ ⟨k,hk,rfl⟩;by_cases hlt:k<l.length
 .obtain ⟨x,hx⟩:∃ x,l[k]=x:=⟨_,rfl⟩
  have hsn:bX (l.take (k+1))=bX (l.take k) ++ jl x:=by
   unfold bX;rw [ML,KN hlt,hx];simp
  have htl:(bX (l.take k)).length<=2200000:=by
   have:=jH (l.take k);rw [K6] at this;omega
  obtain ⟨op,la,ln,ra,rn,xn,xu⟩:=x;by_cases hc:3<=op /\ op<=8
  .have hcm:gj ⟨op,la,ln,ra,rn,xn,xu⟩=true:=(by simp [gj,hc]);have d1:decide (op<3)=false:=by simp only [Lc];omega
   have d2:decide (8<op)=false:=by simp only [Lc];omega
   have hna:jl ⟨op,la,ln,ra,rn,xn,xu⟩=(if la = -1 then [ln] else []) ++ (if ra = -1 then [rn] else []):=by unfold jl;rw [K5 hcm]
   rw [hna] at hsn;by_cases ha:la = -1
   .have ha1:(la == -1)=true:=(by simpa using ha);by_cases hb:ra = -1
    .have hb1:(ra == -1)=true:=(by simpa using hb);rw [K5 ha,K5 hb] at hsn;have hs2:(bX (l.take (k+1))).map (fun n=>[eI n])=((bX (l.take k)).map (fun n=>[eI n]) ++ [[eI ln]]) ++ [[eI rn]]:=by rw [hsn];simp
     repeat' first|refine gq ?_|simp only [ae,hlt,hx,d1,d2,ha1,hb1]|decide|refine sp ?_ ?_<;>intro _|(with_reducible apply And.intro)
     all_goals first
      | rfl
      | omega
      | (simp;omega)
      | exact rI (wS [4] hs2) ⟨k+1,by omega,rfl⟩
    .have hb1:(ra == -1)=false:=(by simpa using hb);rw [K5 ha,KY hb] at hsn;have hs2:(bX (l.take (k+1))).map (fun n=>[eI n])=(bX (l.take k)).map (fun n=>[eI n]) ++ [[eI ln]]:=by rw [hsn];simp
     repeat' first|refine gq ?_|simp only [ae,hlt,hx,d1,d2,ha1,hb1]|decide|refine sp ?_ ?_<;>intro _|(with_reducible apply And.intro)
     all_goals first
      | rfl
      | omega
      | (simp;omega)
      | exact rI (wS [2] hs2) ⟨k+1,by omega,rfl⟩
   .have ha1:(la == -1)=false:=(by simpa using ha);by_cases hb:ra = -1
    .have hb1:(ra == -1)=true:=(by simpa using hb);rw [KY ha,K5 hb] at hsn;have hs2:(bX (l.take (k+1))).map (fun n=>[eI n])=(bX (l.take k)).map (fun n=>[eI n]) ++ [[eI rn]]:=by rw [hsn];simp
     repeat' first|refine gq ?_|simp only [ae,hlt,hx,d1,d2,ha1,hb1]|decide|refine sp ?_ ?_<;>intro _|(with_reducible apply And.intro)
     all_goals first
      | rfl
      | omega
      | (simp;omega)
      | exact rI (wS [2] hs2) ⟨k+1,by omega,rfl⟩
    .have hb1:(ra == -1)=false:=(by simpa using hb);rw [KY ha,KY hb] at hsn;have hs2:(bX (l.take (k+1))).map (fun n=>[eI n])=(bX (l.take k)).map (fun n=>[eI n]):=by rw [hsn];simp
     repeat' first|refine gq ?_|simp only [ae,hlt,hx,d1,d2,ha1,hb1]|decide|refine sp ?_ ?_<;>intro _
     exact rI (wE hs2) ⟨k+1,by omega,rfl⟩
  .have hcm:gj ⟨op,la,ln,ra,rn,xn,xu⟩=false:=by
    rw [L4];intro h;exact hc (by simpa [gj] using h)
   have hna:jl ⟨op,la,ln,ra,rn,xn,xu⟩=[]:=by unfold jl;rw [KY (by simp [hcm])]
   rw [hna,Ln] at hsn;have hs2:(bX (l.take (k+1))).map (fun n=>[eI n])=(bX (l.take k)).map (fun n=>[eI n]):=(by rw [hsn])
   repeat' first|refine gq ?_|simp only [ae,hlt,hx]|decide|refine sp ?_ ?_<;>intro _
   all_goals first
    | exact rI (wE hs2) ⟨k+1,by omega,rfl⟩
    | (exfalso;simp at *;omega)
 .obtain rfl:k=l.length:=by omega
  repeat' first|refine ge (kf @hlt @K7) ?_|decide|refine sp ?_ ?_<;>intro _
  refine qH [0] (R:=⟨sI (aP (bX l)),[],0⟩) ?_ ?_ ?_
  .repeat' first|decide|refine go ?_
   exact hS
  .repeat' first|decide|refine go ?_
   left;simp [gb,iv,bu,b7]
  .repeat' first|refine gq ?_|decide|refine sp ?_ ?_<;>intro _
   all_goals exact a5 (by first|rfl|simp [AV.ren,AV.renL])
end
section
theorem b8:cL Tryz.prog 3 (ey .i64):=qG Tryz.underlying3
theorem pG:cL Tryz.prog 2 (ey .i64):=qG Tryz.underlying2
def Hw:gV (Int × Int × Unit):=bS (ey .i64) (bS (ey .i64) oX)
theorem th:cL Tryz.prog 54 Hw:=
 b6 Tryz.underlying54 (by kernel_rfl) (ax (by kernel_rfl) (by kernel_rfl) b8 (ax (by kernel_rfl) (by kernel_rfl) pG (cN _ _)))
def Kg:gV (Int × (Int × Int × Unit) × (Int × Int × Unit) × Int × Int × Unit):=bS (ey .i64) (bS Hw (bS Hw (bS (ey .i64) (bS (ey .i64) oX))))
theorem vI:cL Tryz.prog 56 Kg:=
 b6 Tryz.underlying56 (by kernel_rfl) (ax (by kernel_rfl) (by kernel_rfl) b8 (ax (by kernel_rfl) (by kernel_rfl) th (ax (by kernel_rfl) (by kernel_rfl) th (ax (by kernel_rfl) (by kernel_rfl) b8 (ax (by kernel_rfl) (by kernel_rfl) b8 (cN _ _))))))
theorem zQ:cL Tryz.prog 56 lW:=fD vI (fun p=>⟨p.1,p.2.1.1,p.2.1.2.1,p.2.2.1.1,p.2.2.1.2.1,p.2.2.2.1,p.2.2.2.2.1⟩) (by
 rintro w S cs ⟨op,⟨la,ln,_⟩,⟨ra,rn,_⟩,n,u,_⟩ h;obtain ⟨c0,q0,e0,⟨a0,h0⟩,h'⟩:=aQ h;obtain ⟨c1,q1,e1,h1,h''⟩:=aQ h';obtain ⟨c2,q2,e2,h2,h3⟩:=aQ h'';obtain ⟨c3,q3,e3,⟨a3,h3'⟩,h4⟩:=aQ h3;obtain ⟨c4,q4,e4,⟨a4,h4'⟩,h5⟩:=aQ h4;have h5:q4=[]:=h5;obtain ⟨d0,k0,f0,⟨b0,g0⟩,m0⟩:=aQ h1;obtain ⟨d1,k1,f1,⟨b1,g1⟩,m1⟩:=aQ m0;have m1:k1=[]:=m1;obtain ⟨d2,k2,f2,⟨b2,g2⟩,m2⟩:=aQ h2;obtain ⟨d3,k3,f3,⟨b3,g3⟩,m3⟩:=aQ m2;have m3:k3=[]:=m3;refine ⟨?_,cO h0,cO g0,cO g1,cO g2,cO g3,cO h3',cO h4'⟩;rw [e0,e1,e2,e3,e4,h5,a0,f0,f1,m1,b0,b1,f2,f3,m3,b2,b3,a3,a4];rfl)
theorem pe:cL Tryz.prog 33 (aY lW):=bH Tryz.underlying33 (by kernel_rfl) (by decide) zQ
theorem zI:cL Tryz.prog 23 (aY (ey .i64)):=bH Tryz.underlying23 (by kernel_rfl) (by decide) pG
theorem vY:cL Tryz.prog 50 (aY (ey .i64)):=bH Tryz.underlying50 (by kernel_rfl) (by decide) b8
end
section
theorem i5:cL Tryz.prog 9 n9:=sX Tryz.underlying9
theorem ph:cL Tryz.prog 4 yb:=wa Tryz.underlying4
theorem mp {t:TypeId} (h:cL Tryz.prog t (bS n9 (bS (ey .i64) oX))):cL Tryz.prog t eD:=fD h (fun p=>(p.1,p.2.1)) (by
 rintro w S cs ⟨s,n,_⟩ h;obtain ⟨c0,q0,e0,⟨a0,h0⟩,h⟩:=aQ h;obtain ⟨c1,q1,e1,⟨a1,h1⟩,h⟩:=aQ h;have h:q1=[]:=h;exact ⟨by rw [e0,e1,a0,a1,h];rfl,h0,cO h1⟩)
theorem vx:cL Tryz.prog 125 eD:=mp (b6 Tryz.underlying125 (by kernel_rfl) (ax (by kernel_rfl) (by kernel_rfl) i5 (ax (by kernel_rfl) (by kernel_rfl) b8 (cN _ _))))
theorem zl:cL Tryz.prog 144 eD:=mp (b6 Tryz.underlying144 (by kernel_rfl) (ax (by kernel_rfl) (by kernel_rfl) i5 (ax (by kernel_rfl) (by kernel_rfl) b8 (cN _ _))))
theorem Cb:cL Tryz.prog 149 lP:=fD (r:=bS (ey .i64) (bS (ey .i64) oX)) (b6 Tryz.underlying149 (by kernel_rfl) (ax (by kernel_rfl) (by kernel_rfl) b8 (ax (by kernel_rfl) (by kernel_rfl) b8 (cN _ _)))) (fun p=>(p.1,p.2.1)) (by
 rintro w S cs ⟨s,n,_⟩ h;obtain ⟨c0,q0,e0,⟨a0,h0⟩,h⟩:=aQ h;obtain ⟨c1,q1,e1,⟨a1,h1⟩,h⟩:=aQ h;have h:q1=[]:=h;exact ⟨by rw [e0,e1,a0,a1,h];rfl,cO h0,cO h1⟩)
theorem tg:cL Tryz.prog 154 ma:=fD (r:=bS yb (bS (ey .i64) oX)) (b6 Tryz.underlying154 (by kernel_rfl) (ax (by kernel_rfl) (by kernel_rfl) ph (ax (by kernel_rfl) (by kernel_rfl) b8 (cN _ _)))) (fun p=>(p.1,p.2.1)) (by
 rintro w S cs ⟨s,n,_⟩ h;obtain ⟨c0,q0,e0,a0,h⟩:=aQ h;have a0:c0=[.bool s]:=a0;obtain ⟨c1,q1,e1,⟨a1,h1⟩,h⟩:=aQ h;have h:q1=[]:=h;exact ⟨by rw [e0,e1,a0,a1,h];rfl,cO h1⟩)
theorem xk:cL Tryz.prog 78 JI:=fD (r:=bS (ey .i64) (bS (ey .i64) (bS (aY lW) oX))) (b6 Tryz.underlying78 (by kernel_rfl) (ax (by kernel_rfl) (by kernel_rfl) b8 (ax (by kernel_rfl) (by kernel_rfl) b8 (ax (by kernel_rfl) (by kernel_rfl) pe (cN _ _))))) (fun p=>⟨p.1,p.2.1,p.2.2.1⟩) (by
 rintro w S cs ⟨s,n,l,_⟩ h;obtain ⟨c0,q0,e0,⟨a0,h0⟩,h⟩:=aQ h;obtain ⟨c1,q1,e1,⟨a1,h1⟩,h⟩:=aQ h;obtain ⟨c2,q2,e2,h2,h⟩:=aQ h;have h:q2=[]:=h;obtain ⟨cv,rfl,h2⟩:=dR (r:=aY lW) rfl h2;exact ⟨cv,by rw [e0,e1,e2,a0,a1,h];rfl,h2,cO h0,cO h1⟩)
theorem Ab:cL Tryz.prog 80 JJ:=fD (r:=bS n9 (bS (ey .i64) (bS (ey .i64) (bS (aY lW) (bS yb oX))))) (b6 Tryz.underlying80 (by kernel_rfl) (ax (by kernel_rfl) (by kernel_rfl) i5 (ax (by kernel_rfl) (by kernel_rfl) b8 (ax (by kernel_rfl) (by kernel_rfl) b8 (ax (by kernel_rfl) (by kernel_rfl) pe (ax (by kernel_rfl) (by kernel_rfl) ph (cN _ _))))))) (fun p=>⟨p.1,p.2.1,p.2.2.1,p.2.2.2.1,p.2.2.2.2.1⟩) (by
 rintro w S cs ⟨nm,s,n,l,b,_⟩ h;obtain ⟨c9,q9,e9,⟨a9,h9⟩,h⟩:=aQ h;obtain ⟨c0,q0,e0,⟨a0,h0⟩,h⟩:=aQ h;obtain ⟨c1,q1,e1,⟨a1,h1⟩,h⟩:=aQ h;obtain ⟨c2,q2,e2,h2,h⟩:=aQ h;obtain ⟨c3,q3,e3,a3,h⟩:=aQ h;have a3:c3=[.bool b]:=a3;have h:q3=[]:=h;obtain ⟨cv,rfl,h2⟩:=dR (r:=aY lW) rfl h2;exact ⟨cv,by rw [e9,e0,e1,e2,e3,a9,a0,a1,a3,h];rfl,h2,cO h0,cO h1,h9⟩)
theorem vR:cL Tryz.prog 82 JL:=fD (r:=bS n9 (bS (ey .i64) (bS (ey .i64) (bS (aY (ey .i64)) (bS (ey .i64) oX))))) (b6 Tryz.underlying82 (by kernel_rfl) (ax (by kernel_rfl) (by kernel_rfl) i5 (ax (by kernel_rfl) (by kernel_rfl) b8 (ax (by kernel_rfl) (by kernel_rfl) b8 (ax (by kernel_rfl) (by kernel_rfl) vY (ax (by kernel_rfl) (by kernel_rfl) b8 (cN _ _))))))) (fun p=>⟨p.1,p.2.1,p.2.2.1,p.2.2.2.1,p.2.2.2.2.1⟩) (by
 rintro w S cs ⟨nm,s,n,l,b,_⟩ h;obtain ⟨c9,q9,e9,⟨a9,h9⟩,h⟩:=aQ h;obtain ⟨c0,q0,e0,⟨a0,h0⟩,h⟩:=aQ h;obtain ⟨c1,q1,e1,⟨a1,h1⟩,h⟩:=aQ h;obtain ⟨c2,q2,e2,h2,h⟩:=aQ h;obtain ⟨c3,q3,e3,⟨a3,h3⟩,h⟩:=aQ h;have h:q3=[]:=h;obtain ⟨cv,rfl,h2⟩:=dR (r:=aY (ey .i64)) rfl h2;exact ⟨cv,by rw [e9,e0,e1,e2,e3,a9,a0,a1,a3,h];rfl,h2,cO h0,cO h1,cO h3,h9⟩)
abbrev Kn:=bS (aY n9) (bS (aY (ey .i64)) (bS (aY n9) (bS (aY eD) (bS (aY eD) (bS (aY JL) (bS (aY JI) (bS (aY JJ) (bS (aY lP) (bS (aY ma) oX)))))))))
theorem yD:cL Tryz.prog 32 Kn:=b6 Tryz.underlying32 (by kernel_rfl) (ax (by kernel_rfl) (by kernel_rfl) (bH Tryz.underlying22 (by kernel_rfl) (by decide) i5) (ax (by kernel_rfl) (by kernel_rfl) (bH Tryz.underlying23 (by kernel_rfl) (by decide) pG) (ax (by kernel_rfl) (by kernel_rfl) (bH Tryz.underlying22 (by kernel_rfl) (by decide) i5) (ax (by kernel_rfl) (by kernel_rfl) (bH Tryz.underlying24 (by kernel_rfl) (by decide) zl) (ax (by kernel_rfl) (by kernel_rfl) (bH Tryz.underlying25 (by kernel_rfl) (by decide) vx) (ax (by kernel_rfl) (by kernel_rfl) (bH Tryz.underlying26 (by kernel_rfl) (by decide) vR) (ax (by kernel_rfl) (by kernel_rfl) (bH Tryz.underlying27 (by kernel_rfl) (by decide) xk) (ax (by kernel_rfl) (by kernel_rfl) (bH Tryz.underlying28 (by kernel_rfl) (by decide) Ab) (ax (by kernel_rfl) (by kernel_rfl) (bH Tryz.underlying29 (by kernel_rfl) (by decide) Cb) (ax (by kernel_rfl) (by kernel_rfl) (bH Tryz.underlying30 (by kernel_rfl) (by decide) tg) (cN _ _)))))))))))
theorem DK {H:Type} {enc:TypeId × Value -> H} {w:World} {fuel:Nat} {cs:Array Value} {x:DataW H × List MemPlace} (h:DataW.trod enc Tryz.prog w 0 (fun _=>true) true fuel 32 cs.toList=some x) :
  ∃ (V:MV) (m:aR),cs=V.cells /\ H4 w V m:=by
 obtain ⟨⟨attrs,inits,users,roles,stages,events,guards,miles,sods,order,_⟩,h⟩:=yD H enc w fuel _ _ h;obtain ⟨c0,q0,e0,h0,h⟩:=aQ h;obtain ⟨c1,q1,e1,h1,h⟩:=aQ h;obtain ⟨c2,q2,e2,h2,h⟩:=aQ h;obtain ⟨c3,q3,e3,h3,h⟩:=aQ h;obtain ⟨c4,q4,e4,h4,h⟩:=aQ h;obtain ⟨c5,q5,e5,h5,h⟩:=aQ h;obtain ⟨c6,q6,e6,h6,h⟩:=aQ h;obtain ⟨c7,q7,e7,h7,h⟩:=aQ h;obtain ⟨c8,q8,e8,h8,h⟩:=aQ h;obtain ⟨c9,q9,e9,h9,h⟩:=aQ h;obtain rfl:q9=[]:=h;obtain ⟨v0,rfl,h0⟩:=dR (r:=aY n9) rfl h0;obtain ⟨v1,rfl,h1⟩:=dR (r:=aY (ey .i64)) rfl h1;obtain ⟨v2,rfl,h2⟩:=dR (r:=aY n9) rfl h2;obtain ⟨v3,rfl,h3⟩:=dR (r:=aY eD) rfl h3;obtain ⟨v4,rfl,h4⟩:=dR (r:=aY eD) rfl h4;obtain ⟨v5,rfl,h5⟩:=dR (r:=aY JL) rfl h5;obtain ⟨v6,rfl,h6⟩:=dR (r:=aY JI) rfl h6;obtain ⟨v7,rfl,h7⟩:=dR (r:=aY JJ) rfl h7;obtain ⟨v8,rfl,h8⟩:=dR (r:=aY lP) rfl h8;obtain ⟨v9,rfl,h9⟩:=dR (r:=aY ma) rfl h9;refine ⟨⟨v0,v1,v2,v3,v4,v5,v6,v7,v8,v9⟩,⟨attrs,inits,users,roles,stages,events,guards,miles,sods,order⟩,?_,⟨h0,h1,h2,h3,h4,h5,h6,h7,h8,h9⟩⟩;apply Array.ext';rw [e0,e1,e2,e3,e4,e5,e6,e7,e8,e9];rfl
end
section
def n8 {α:Type} (r:gV α) (f:α -> List AV):Prop:=∀ (w:World) (S:Nat -> Prop) (cs:List Value) (x:α),r.at_ w S cs x -> (f x).length=r.size /\ ∀ (j:Nat) (u:Value) (av:AV),cs[j]? = some u -> (f x)[j]? = some av -> RT w S u av /\ u.oneCell'=true
theorem n8.slice {α:Type} {r:gV α} {f:α -> List AV} (h:n8 r f) {w:World} {S:Nat -> Prop} {v:Value} {l:List α} (hv:(aY r).one w S v l):RT w S v (.sl r.size (l.map f)):=by
 obtain ⟨A,c,rfl,h1,h2⟩:=fE hv;by_cases h0:0<l.length
 .obtain ⟨b,o,rfl,hb,hrow⟩:=ja hv h0
  classical
  let cs:Nat -> List Value:=fun i=>if hi:i<l.length then (hrow i hi).choose else []
  have hcs:∀ i (hi:i<l.length),(∀ (j:Nat) (u:Value),(cs i)[j]? = some u -> w.cell? ⟨b,o+i * r.size+j,none⟩=some u) /\ r.at_ w S (cs i) l[i]:=fun i hi=>by
   have:=(hrow i hi).choose_spec;simpa [cs,hi] using this
  have key:∀ (i j:Nat) (row:List AV) (av:AV),(l.map f)[i]? = some row -> row[j]? = some av -> ∃ hi:i<l.length,(cs i)[j]? = some ((cs i).getD j undef) /\ RT w S ((cs i).getD j undef) av /\ ((cs i).getD j undef).oneCell'=true:=fun i j row av h3 h4=>by
   have hi:i<l.length:=by
    have:=(KS.1 h3).1;simpa using this
   have hf:row=f l[i]:=by
    rw [KV,KN hi] at h3;exact (Mk h3).symm
   subst hf;obtain ⟨h5,h6⟩:=h w S (cs i) l[i] (hcs i hi).2
   have hj:j<(cs i).length:=by
    rw [r.len (hcs i hi).2,<- h5];exact (KS.1 h4).1
   have e:(cs i)[j]? = some ((cs i).getD j undef):=by
    rw [KP,KN hj];rfl
   exact ⟨hi,e,h6 j _ av e h4⟩
  refine .sl _ _ c r.size _ b o (fun i j=>(cs i).getD j undef) (by simp) h1 h2 (fun _=>⟨rfl,hb⟩) (fun row hr=>?_) (fun _ i j row av h3 h4=>?_) (fun i j row av h3 h4=>(key i j row av h3 h4).elim fun _ h=>h.2.2) (fun i j row av h3 h4=>(key i j row av h3 h4).elim fun _ h=>h.2.1)
  .obtain ⟨i,hi,rfl⟩:=Le hr;have hi:i<l.length:=(by simpa using hi);simp only [List.getElem_map];exact (h w S (cs i) l[i] (hcs i hi).2).1
  .obtain ⟨hi,h5,_⟩:=key i j row av h3 h4;exact (hcs i hi).1 j _ h5
 .have:l=[]:=Mm.1 (by omega);subst this;exact .sl A 0 c r.size [] 0 0 (fun _ _=>undef) rfl h1 h2 (fun h=>by omega) (by simp) (fun h=>by omega) (by simp) (by simp)
theorem fJ {α:Type} {r:gV α} {f:α -> List AV} (g:α -> List Value) (hg:∀ w S cs x,r.at_ w S cs x -> cs=g x) (hs:∀ x,(g x).length=r.size) (ho:∀ x u,u ∈ g x -> u.oneCell'=true) (hf:∀ x,f x=(g x).map .c):n8 r f:=fun w S cs x h=>by
 obtain rfl:=hg w S cs x h;rw [hf];refine ⟨by simp [hs],fun j u av h1 h2=>?_⟩;rw [KV,h1] at h2;cases h2;exact ⟨.c u,ho x u (KO h1)⟩
theorem tv:n8 n9 (fun s=>[eS s]):=fJ (fun s=>[.string s]) (fun w S cs x h=>h.1) (fun x=>rfl) (fun x u h=>by simp at h;subst h;rfl) (fun x=>rfl)
theorem pH:n8 (ey .i64) (fun n=>[eI n]):=fJ (fun n=>[.int .i64 n]) (fun w S cs x h=>h.1) (fun x=>rfl) (fun x u h=>by simp at h;subst h;rfl) (fun x=>rfl)
theorem x5:n8 eD CK:=fJ (fun p=>[.string p.1,.int .i64 p.2]) (fun w S cs x h=>h.1) (fun x=>rfl) (fun x u h=>by simp at h;rcases h with rfl | rfl<;>rfl) (fun x=>rfl)
theorem Fx:n8 lP Kl:=fJ (fun p=>[.int .i64 p.1,.int .i64 p.2]) (fun w S cs x h=>h.1) (fun x=>rfl) (fun x u h=>by simp at h;rcases h with rfl | rfl<;>rfl) (fun x=>rfl)
theorem Fv:n8 ma ta:=fJ (fun p=>[.bool p.1,.int .i64 p.2]) (fun w S cs x h=>h.1) (fun x=>rfl) (fun x u h=>by simp at h;rcases h with rfl | rfl<;>rfl) (fun x=>rfl)
theorem qt:n8 lW jO:=fJ aJ.cells (fun w S cs x h=>h.1) (fun x=>rfl) (fun x u h=>by simp [aJ.cells] at h;rcases h with rfl | rfl | rfl | rfl | rfl | rfl | rfl<;>rfl) (fun x=>rfl)
theorem nf {α:Type} {r:gV α} {w:World} {S:Nat -> Prop} {v:Value} {l:List α} (h:(aY r).one w S v l):v.oneCell'=true:=by
 obtain ⟨A,c,rfl,_⟩:=fE h;rfl
theorem Eg:n8 JI AG:=fun w S cs x ⟨cv,h1,h2,_⟩=>by
 subst h1;refine ⟨rfl,fun j u av h3 h4=>?_⟩
 match j with
 | 0=>simp at h3 h4;subst h3;subst h4;exact ⟨.c _,rfl⟩
 | 1=>simp at h3 h4;subst h3;subst h4;exact ⟨.c _,rfl⟩
 | 2=>simp at h3 h4;subst h3;subst h4;exact ⟨qt.slice h2,nf h2⟩
 | j+3=>simp at h3
theorem Fo:n8 JJ tj:=fun w S cs x ⟨cv,h1,h2,_⟩=>by
 subst h1;refine ⟨rfl,fun j u av h3 h4=>?_⟩
 match j with
 | 0=>simp at h3 h4;subst h3;subst h4;exact ⟨.c _,rfl⟩
 | 1=>simp at h3 h4;subst h3;subst h4;exact ⟨.c _,rfl⟩
 | 2=>simp at h3 h4;subst h3;subst h4;exact ⟨.c _,rfl⟩
 | 3=>simp at h3 h4;subst h3;subst h4;exact ⟨qt.slice h2,nf h2⟩
 | 4=>simp at h3 h4;subst h3;subst h4;exact ⟨.c _,rfl⟩
 | j+5=>simp at h3
theorem ET:n8 JL wY:=fun w S cs x ⟨cv,h1,h2,_⟩=>by
 subst h1;refine ⟨rfl,fun j u av h3 h4=>?_⟩
 match j with
 | 0=>simp at h3 h4;subst h3;subst h4;exact ⟨.c _,rfl⟩
 | 1=>simp at h3 h4;subst h3;subst h4;exact ⟨.c _,rfl⟩
 | 2=>simp at h3 h4;subst h3;subst h4;exact ⟨.c _,rfl⟩
 | 3=>simp at h3 h4;subst h3;subst h4;exact ⟨pH.slice h2,nf h2⟩
 | 4=>simp at h3 h4;subst h3;subst h4;exact ⟨.c _,rfl⟩
 | j+5=>simp at h3
theorem I3 {w:World} {V:MV} {m:aR} (h:H4 w V m):RT w (fun b=>b<w.heap.size) (.agg V.cells) (.agg (aM m)):=by
 refine .agg _ _ rfl fun j u av h1 h2=>?_
 match j with
 | 0=>simp [MV.cells] at h1 h2;subst h1;subst h2;exact tv.slice h.attrs
 | 1=>simp [MV.cells] at h1 h2;subst h1;subst h2;exact pH.slice h.inits
 | 2=>simp [MV.cells] at h1 h2;subst h1;subst h2;exact tv.slice h.users
 | 3=>simp [MV.cells] at h1 h2;subst h1;subst h2;exact x5.slice h.roles
 | 4=>simp [MV.cells] at h1 h2;subst h1;subst h2;exact x5.slice h.stages
 | 5=>simp [MV.cells] at h1 h2;subst h1;subst h2;exact ET.slice h.events
 | 6=>simp [MV.cells] at h1 h2;subst h1;subst h2;exact Eg.slice h.guards
 | 7=>simp [MV.cells] at h1 h2;subst h1;subst h2;exact Fo.slice h.miles
 | 8=>simp [MV.cells] at h1 h2;subst h1;subst h2;exact Fx.slice h.sods
 | 9=>simp [MV.cells] at h1 h2;subst h1;subst h2;exact Fv.slice h.order
 | j+10=>simp at h2
theorem fg {α:Type} {r:gV α} {w:World} {S:Nat -> Prop} {v:Value} {l:List α} {Q:α -> Prop} (h:(aY r).one w S v l) (hq:∀ cs x,r.at_ w S cs x -> Q x):∀ x ∈ l,Q x:=fun x hx=>by
 obtain ⟨i,hi,rfl⟩:=Le hx;obtain ⟨A,c,rfl,_⟩:=fE h;obtain ⟨b,o,rfl,_,hrow⟩:=ja h (by omega);obtain ⟨cs,_,h2⟩:=hrow i hi;exact hq cs _ h2
theorem yC {w:World} {V:MV} {m:aR} (h:H4 w V m):xy m:=
 ⟨fg h.guards fun cs x ⟨cv,_,h2,_⟩=>fg h2 fun cs y h3=>h3.2,fg h.miles fun cs x ⟨cv,_,h2,_⟩=>fg h2 fun cs y h3=>h3.2⟩
end
section
deriving instance DecidableEq for aJ
structure KH where
 op:Int
 a:Int
 b:Int
 x:aJ
deriving DecidableEq
def J9:aJ:=⟨0,0,0,0,0,0,0⟩
instance:Inhabited KH:=⟨⟨0,0,0,J9⟩⟩
end
section
abbrev Bl:aJ:=⟨1,0,0,0,0,0,0⟩
section
variable {n:Nat} {l:List KH} {a b:Int}
end
end
section
theorem vU {r av:AV} {st:ak} (h:r.ren []=av):dW ⟨r,[],0⟩ st av:=⟨[],List.nodup_nil,h,trivial⟩
end
section
open Classical in
open Classical in
def cnt (a:List Bool):Nat:=(a.filter id).length
end
section
end
section
end
section
end
section
end
section
end
section
section
variable {next:List (List Int)} {a b:List Bool} {L:List Bool} {F:List Int} {rows:List (List Int)}
end
end
section
section
variable {next rows:List (List Int)} {L:List Bool} {lf:List Int}
end
section
variable {next rows:List (List Int)} {a:List Bool} {q q':Nat -> Prop} {ex:Nat -> Nat} {L:List Bool} {F:List Int} {lf:List Int}
end
section
variable {w wx w':World} {hi:Nat} {va:Value} {rows:List (List Int)} {L:List Bool} {F F':List Int} {lf:List Int}
end
end
section
structure pp where
 ev:Int
 us:Int
 dst:Int
abbrev vq (e:pp):List AV:=[eI e.ev,eI e.us,eI e.dst]
abbrev jC (l:List (List pp)):List (List AV):=l.map fun r=>[.sl 3 (r.map vq)]
end
section
theorem pK:((2:Int)=0)=False:=by simp
theorem C8 (s i:Int) (hs:0<=s) (hs2:s<=9223372036854775807):aw Tryz.prog 92 [eI s,eI i] (val (.bool (aW s i))):=by
 refine ab ah Tryz.func92 rfl (by decide) Tryz.ntmps92 Tryz.results92 rfl (aU _) ?_
 repeat' first|refine go ?_|decide|refine sp ?_ ?_<;>intro _
 .rename_i h;simp at h;simp [aW];omega
 .rename_i h1 h2;simp at h1 h2;simp [aW];omega
 .rename_i h1 h2;simp at h1 h2;obtain ⟨q,rfl⟩:∃ q:Nat,i=(q:Int):=⟨i.toNat,by omega⟩;have e0:s / 2 ^ 0=s:=by simp
  refine af (fun st=>∃ k:Nat,k<=q /\ st=⟨31,[(0,eI (s / 2 ^ k)),(1,eI (q:Int)),(5,eI (k:Int))],[],0⟩) (fun st=>q - ap st 5) ⟨_,(wE e0),0,KR _,rfl⟩ ?_;rintro _ ⟨k,hk,rfl⟩;have hd0:0<=s / 2 ^ k:=Int.ediv_nonneg hs (Int.le_of_lt (MS (by omega)));have hd1:s / 2 ^ k<=9223372036854775807:=Int.le_trans (Int.ediv_le_self _ hs) hs2;have et:(s / 2 ^ k).tmod 2=s / 2 ^ k % 2:=LZ hd0
  have ed:s / 2 ^ (k+1)=s / 2 ^ k / 2:=by
   rw [Int.pow_succ,Int.ediv_ediv_of_nonneg (Int.le_of_lt (MS (by omega)))]
  generalize hx:s / 2 ^ k=x at *;have en:decide (x % 2<0)=false:=by simp;omega
  have ew:IntKind.i64.wrap (x - x % 2)=x - x % 2:=ay (by omega) (by omega)
  have eq:(x - x % 2).tdiv 2=x / 2:=by
   rw [MG (by omega)];omega
  by_cases hlt:k<q
  .repeat' first|refine ge (kf @hlt (kf @pK (kf et (kf en (kf ew eq))))) ?_|decide|refine sp ?_ ?_<;>intro _
   have ew2:IntKind.i64.wrap (x / 2)=x / 2:=ay (by omega) (by omega);exact rI (wE (kf ed ew2)) ⟨k+1,by omega,rfl⟩
  .obtain rfl:k=q:=by omega
   repeat' first|refine ge (kf @hlt (kf @pK et)) ?_|decide|refine sp ?_ ?_<;>intro _
   have hk31:(k:Int)<31:=(by omega);simp [aW,hx,hk31];rcases Int.emod_two_eq x with h|h<;>simp [h]
end
section
def xD (e:TypeId) (sz:Nat) (rows:List (List AV)) (R:ce):Prop:=R=gi e sz rows \/ (R=val (.slice none 0 0) /\ rows=[])
theorem g8 {P:Program} {f:FuncId} {args:List AV} (e:TypeId) {sz:Nat} {rows:List (List AV)} (h:cT P f args (xD e sz rows)):aw P f args ⟨.sl sz rows,[],0⟩:=sC h
theorem gZ {e:TypeId} {sz:Nat} {rows:List (List AV)} (h:rows=[]):xD e sz rows (val (.slice none 0 0)):=.inr ⟨rfl,h⟩
theorem jm {e:TypeId} {sz:Nat} {rows:List (List AV)}:xD e sz rows (gi e sz rows):=.inl rfl
end
end
section
section
def bL (g r:Int):Int:=if g<0 then 0 else min g (cj r)
abbrev eP (p:Int × Int):List AV:=[eI p.1,eI p.2]
theorem fp (r:Int):0<=cj r /\ cj r<=1048575:=by
 unfold cj;have h1:(2:Nat) ^ (min r.toNat 20)<=2 ^ 20:=Lu (by omega) (by omega);have h2:((2 ^ (min r.toNat 20):Nat):Int)=(2:Int) ^ (min r.toNat 20):=by simp
 have h3:(0:Int)<2 ^ (min r.toNat 20):=MS (by omega);omega
theorem mH (g r:Int):0<=bL g r /\ bL g r<=cj r:=by
 have:=fp r;unfold bL;split<;>omega
theorem ld (g r:Int):aw Tryz.prog 194 [eI g,eI r] (val (.int .i64 (bL g r))):=by
 refine ab ah Tryz.func194 rfl (by decide) Tryz.ntmps194 Tryz.results194 rfl (aU _) ?_;have hC:=qQ r;by_cases h:g<0
 .have d:decide (g<0)=true:=by simpa using h
  unfold bL;rw [K5 h]
  repeat' first|refine gf d ?_|decide|refine sp ?_ ?_<;>intro _
 .have d:decide (g<0)=false:=by simpa using h
  unfold bL;rw [KY h]
  repeat' first|refine gf d ?_|decide|refine sp ?_ ?_<;>intro _|refine cA hC ?_|fail
theorem KE:(0:Int)<=1:=by decide
theorem Kj:(0:Int)<((2:Nat):Int):=by decide
theorem Kq:(1:Int)<((2:Nat):Int):=by decide
def jY (l:List (Int × Int)) (a b:Int):Bool:=l.any fun p=>p.1 == a && p.2 == b
theorem DV {l:List (Int × Int)} {k:Nat} (hk:k<l.length) (a b:Int):jY (l.take (k+1)) a b=(jY (l.take k) a b || (l[k].1 == a && l[k].2 == b)):=by
 unfold jY;rw [KX hk,List.any_append];simp
theorem FL {l:List (Int × Int)} (k:Nat) (a b:Int) (h:jY (l.take k) a b=true):jY l a b=true:=by
 unfold jY at *;rw [List.any_eq_true] at *;obtain ⟨x,hx,h⟩:=h;exact ⟨x,Lk hx,h⟩
theorem wg (l:List (Int × Int)) (a b:Int) (hl:l.length<=1000000000000):aw Tryz.prog 196 [.sl 2 (l.map eP),eI a,eI b] (val (.bool (jY l a b))):=by
 refine ab ah Tryz.func196 rfl (by decide) Tryz.ntmps196 Tryz.results196 rfl (aU _) ?_
 repeat' first|refine go ?_|decide|refine sp ?_ ?_<;>intro _
 refine af (fun st=>∃ k:Nat,k<=l.length /\ jY (l.take k) a b=false /\ st=⟨30,[(0,.sl 2 (l.map eP)),(1,eI a),(2,eI b),(7,eI (k:Int))],[],0⟩) (fun st=>l.length - ap st 7) ⟨_,wC,0,KR _,rfl,rfl⟩ ?_;rintro _ ⟨k,hk,hI,rfl⟩;by_cases hlt:k<l.length
 .have hp:=DV hlt a b;rw [hI,Bool.false_or] at hp;obtain ⟨x,hx⟩:∃ x,x=l[k]:=⟨_,rfl⟩;have hrow:(l.map eP)[k]?.getD []=eP x:=by rw [hx];simp [hlt]
  rw [<- hx] at hp;have q0:List.drop (Int.toNat 0 * 1) (eP x)=[eI x.1,eI x.2]:=rfl;have q1:List.drop (Int.toNat 1 * 1) (eP x)=[eI x.2]:=rfl
  cases h1:x.1 == a with
  | false=>
   rw [h1,L6] at hp
   repeat' first|refine ge (kf @hrow (kf @hlt (kf h1 (kf Kj q0)))) ?_|decide|refine sp ?_ ?_<;>intro _
   exact rI wC ⟨k+1,by omega,hp,rfl⟩
  | true=>
   cases h2:x.2 == b with
   | false=>
    rw [h1,h2,L5] at hp
    repeat' first|refine ge (kf @hrow (kf @hlt (kf h1 (kf h2 (kf Kj (kf Kq (kf q0 (kf q1 KE)))))))) ?_|decide|refine sp ?_ ?_<;>intro _
    exact rI wC ⟨k+1,by omega,hp,rfl⟩
   | true=>
    rw [h1,h2,L5] at hp;have:=FL _ _ _ hp;rw [this]
    repeat' first|refine ge (kf @hrow (kf @hlt (kf h1 (kf h2 (kf Kj (kf Kq (kf q0 (kf q1 KE)))))))) ?_|decide|refine sp ?_ ?_<;>intro _
 .obtain rfl:k=l.length:=by omega
  rw [K7] at hI;rw [hI]
  repeat' first|refine ge @hlt ?_|decide|refine sp ?_ ?_<;>intro _
def gc (g r:Int):Nat -> List (Int × Int)
 | 0=>[]
 | a+1=>if jY (gc g r a) (bL a (r - 1)) (bL (g - 1 - a) (r - 1))=true then gc g r a else gc g r a ++ [(bL a (r - 1),bL (g - 1 - a) (r - 1))]
theorem nu (g r:Int):∀ a,(gc g r a).length<=a
 | 0=>KW _
 | a+1=>by
  have:=nu g r a;rw [gc];split
  .omega
  .rw [f4,Lo];omega
theorem Js (q:Nat) (r:Int) (hq:q<=100000000) (hr:-1000000<=r /\ r<=1000000):aw Tryz.prog 195 [eI (q:Int),eI r] (gi 221 2 ((gc (q:Int) r q).map eP)):=by
 refine ab ah Tryz.func195 rfl (by decide) Tryz.ntmps195 Tryz.results195 rfl (dB _ _ _) ?_;have er:IntKind.i64.wrap (r - 1)=r - 1:=ay (by omega) (by omega)
 repeat' first|refine go ?_|decide|refine sp ?_ ?_<;>intro _
 refine af (fun st=>∃ k:Nat,k<=q /\ st=⟨37,[(0,eI (q:Int)),(1,eI r),(5,.osl 0),(6,eI (k:Int))],[(0,some (.row 221 2 ((gc (q:Int) r k).map eP)))],1⟩) (fun st=>q - ap st 6) ⟨_,((bf 5 221 2 (by simp only [iu,ak.get,bl,ak.put,↓reduceIte,reduceCtorEq,Nat.reduceLT,Nat.reduceEqDiff,Nat.reduceAdd,Nat.reduceLeDiff,eq_self,implies_true,gc,Lq])).trans (wS [0] (kf @gc.eq_1 @gc.eq_2))),0,KR _,rfl⟩ ?_;rintro _ ⟨k,hk,rfl⟩;by_cases hlt:k<q
 .have e1:IntKind.i64.wrap ((q:Int) - 1)=(q:Int) - 1:=ay (by omega) (by omega);have e2:IntKind.i64.wrap ((q:Int) - 1 - (k:Int))=(q:Int) - 1 - (k:Int):=ay (by omega) (by omega);have hlen:=nu (q:Int) r k;have hs:=gc.eq_2 (q:Int) r k;have h1:=ld (k:Int) (r - 1);have h2:=ld ((q:Int) - 1 - (k:Int)) (r - 1);obtain ⟨x,hx⟩:∃ x,x=bL (k:Int) (r - 1):=⟨_,rfl⟩;obtain ⟨y,hy⟩:∃ y,y=bL ((q:Int) - 1 - (k:Int)) (r - 1):=⟨_,rfl⟩;rw [<- hx] at h1 hs;rw [<- hy] at h2 hs;obtain ⟨T,hT⟩:∃ T,T=gc (q:Int) r k:=⟨_,rfl⟩;rw [<- hT] at hs hlen ⊢;have h3:=wg T x y (by omega)
  cases hh:jY T x y with
  | true=>
   rw [hh,K5 rfl] at hs;rw [hh] at h3
   repeat' first|refine gf (kf @hlt (kf er (kf e1 e2))) ?_|decide|refine sp ?_ ?_<;>intro _|refine cA h1 ?_|refine cA h2 ?_|refine cA h3 ?_|fail
   all_goals exact rI (wE hs) ⟨k+1,by omega,rfl⟩
  | false=>
   rw [hh,KY (by simp)] at hs;rw [hh] at h3
   repeat' first|refine gf (kf @hlt (kf er (kf e1 e2))) ?_|decide|refine sp ?_ ?_<;>intro _|refine cA h1 ?_|refine cA h2 ?_|refine cA h3 ?_|fail
   all_goals
    have hm:(gc (q:Int) r (k+1)).map eP=T.map eP ++ [[eI x,eI y]]:=by rw [hs];simp
    exact ⟨rfl,⟨by omega,by omega⟩,rI (wS [2] hm) ⟨k+1,by omega,rfl⟩⟩
 .obtain rfl:k=q:=by omega
  repeat' first|refine ge @hlt ?_|decide|refine sp ?_ ?_<;>intro _
  exact bk (by simp [aa.gc])
def de (all:List (Int × Int)) (a b:Nat):List (Int × Int):=((List.range b).filter fun (j:Nat)=>jY all (a:Int) (j:Int)).map fun (j:Nat)=>((a:Int),(j:Int))
theorem nF (all:List (Int × Int)) (a b:Nat):de all a (b+1)=de all a b ++ (if jY all (a:Int) (b:Int)=true then [((a:Int),(b:Int))] else []):=by
 unfold de;rw [LX,List.filter_append,Lr]
 congr 1
 by_cases h:jY all (a:Int) (b:Int)=true
 .rw [K5 h];simp [h]
 .rw [KY h];simp [h]
theorem pZ (all:List (Int × Int)) (a b:Nat):(de all a b).length<=b:=by
 unfold de;rw [Lg];refine Lf (List.length_filter_le _ _) ?_;simp
def fx (all:List (Int × Int)) (c:Nat):Nat -> List (Int × Int)
 | 0=>[]
 | a+1=>fx all c a ++ de all a (c+1)
theorem oO (all:List (Int × Int)) (c:Nat):∀ a,(fx all c a).length<=a * (c+1)
 | 0=>by simp [fx]
 | a+1=>by
  have h1:=oO all c a;have h2:=pZ all a (c+1);rw [fx,f4,MM];omega
def Fb (g r:Int):Int:=if bL g r=cj r then 3 * bL g r+3 else bL g r
def n7 (g r:Int):List (Int × Int):=if r<1 \/ g<1 then [] else fx (gc (Fb g r) r (Fb g r).toNat) (cj (r - 1)).toNat ((cj (r - 1)).toNat+1)
theorem tA (g r:Int):(n7 g r).length<=((cj (r - 1)).toNat+1) * ((cj (r - 1)).toNat+1):=by
 unfold n7;split
 .exact KR _
 .exact oO _ _ _
theorem CA (g r:Int) (hr:-1000000<=r /\ r<=1000000):aw Tryz.prog 154 [eI g,eI r] ⟨.sl 2 ((n7 g r).map eP),[],0⟩:=by
 refine g8 221 ?_;refine ba ah Tryz.func154 rfl (by decide) Tryz.ntmps154 Tryz.results154 rfl ?_;unfold n7;by_cases hbad:r<1 \/ g<1
 .rw [K5 hbad];by_cases h1:r<1
  .have d1:decide (r<1)=true:=K4 h1
   repeat' first|refine gf d1 ?_|decide|refine sp ?_ ?_<;>intro _
   all_goals exact bZ (gZ rfl)
  .have d1:decide (r<1)=false:=K0 h1;have d2:decide (g<1)=true:=K4 (by omega)
   repeat' first|refine gf (kf d1 d2) ?_|decide|refine sp ?_ ?_<;>intro _
   all_goals exact bZ (gZ rfl)
 .rw [KY hbad];have d1:decide (r<1)=false:=K0 (by omega);have d2:decide (g<1)=false:=K0 (by omega);have er:IntKind.i64.wrap (r - 1)=r - 1:=ay (by omega) (by omega);have hC:=ld g r;have hc:=mH g r;have hp:=fp r;have hp1:=fp (r - 1);have hR:=qQ r;have hR1:=qQ (r - 1);obtain ⟨c,hcc⟩:∃ c:Nat,cj (r - 1)=(c:Int):=⟨(cj (r - 1)).toNat,by omega⟩;obtain ⟨q,hq⟩:∃ q:Nat,Fb g r=(q:Int):=⟨(Fb g r).toNat,by unfold Fb;split<;>omega⟩;have hqb:q<=100000000:=by unfold Fb at hq;split at hq<;>omega
  have e1:(Fb g r).toNat=q:=by omega
  have e2:(cj (r - 1)).toNat=c:=by omega
  rw [e1,e2,hq];rw [hcc] at hR1 hp1;have hT:aw Tryz.prog 195 [eI (q:Int),eI r] ⟨.sl 2 ((gc (q:Int) r q).map eP),[],0⟩:=aw.still [0] (Js q r hqb hr) (by simp [ce.frzs,ce.frz,gi,aa.gc,AV.frz]) (by simp [AV.lt]);have hTl:=nu (q:Int) r q;obtain ⟨T,hTe⟩:∃ T,T=gc (q:Int) r q:=⟨_,rfl⟩;rw [<- hTe] at hT hTl ⊢;have hcb:c<=1048575:=by omega
  have hb1:∀ a b:Nat,a<=c+1 -> b<=c+1 -> (fx T c a ++ de T a b).length<=1099511627776+1048577:=fun a b ha hb=>by
   have h1:=oO T c a;have h2:=pZ T a b;have h3:a * (c+1)<=1048576 * 1048576:=MH (by omega) (by omega);rw [f4];omega
  by_cases hcap:bL g r=cj r
  .have d3:(bL g r == cj r)=true:=MC.2 hcap;have hqq:3 * bL g r+3=(q:Int):=by unfold Fb at hq;rw [K5 hcap] at hq;exact hq
   have w1:IntKind.i64.wrap (3 * bL g r)=3 * bL g r:=ay (by omega) (by omega);have w2:IntKind.i64.wrap (3 * bL g r+3)=(q:Int):=by rw [hqq];exact ay (by omega) (by omega)
   repeat' first|refine gf (kf d1 (kf d2 (kf d3 (kf er (kf w1 w2))))) ?_|decide|refine sp ?_ ?_<;>intro _|refine cA hC ?_|refine cA hR ?_|refine cA hT ?_|fail
   refine af (fun st=>∃ a:Nat,a<=c+1 /\ st=⟨55,[(1,eI r),(5,.osl 0),(7,.sl 2 (T.map eP)),(8,eI (a:Int))],[(0,some (.row 221 2 ((fx T c a).map eP)))],1⟩) (fun st=>c+1 - ap st 8) ⟨_,((bf 5 221 2 (by simp only [iu,ak.get,bl,ak.put,↓reduceIte,reduceCtorEq,Nat.reduceLT,Nat.reduceEqDiff,Nat.reduceAdd,Nat.reduceLeDiff,eq_self,implies_true,fx,Lq])).trans (wS [0] (kf @fx.eq_1 @fx.eq_2))),0,KR _,rfl⟩ ?_;rintro _ ⟨a,ha,rfl⟩;by_cases hla:a<=c
   .repeat' first|refine gf (kf @hla er) ?_|decide|refine sp ?_ ?_<;>intro _|refine cA hR1 ?_|fail
    refine af (fun st=>∃ b:Nat,b<=c+1 /\ st=⟨55,[(1,eI r),(5,.osl 0),(7,.sl 2 (T.map eP)),(8,eI (a:Int)),(9,eI (b:Int))],[(0,some (.row 221 2 ((fx T c a ++ de T a b).map eP)))],1⟩) (fun st=>c+1 - ap st 9) ⟨_,(wE (kf @de.eq_1 (kf @L7 @MZ))),0,KR _,rfl⟩ ?_;rintro _ ⟨b,hb,rfl⟩;by_cases hlb:b<=c
    .have hH:=wg T (a:Int) (b:Int) (by omega);have hs:=nF T a b;have hlen:=hb1 a b ha hb;obtain ⟨O,hO⟩:∃ O,O=fx T c a ++ de T a b:=⟨_,rfl⟩;have hs2:fx T c a ++ de T a (b+1)=O ++ (if jY T (a:Int) (b:Int)=true then [((a:Int),(b:Int))] else []):=(by rw [hs,hO,KZ]);rw [<- hO] at hlen ⊢
     cases hh:jY T (a:Int) (b:Int) with
     | true=>
      rw [hh,K5 rfl] at hs2;rw [hh] at hH;have et:(fx T c a ++ de T a (b+1)).map eP=O.map eP ++ [[eI (a:Int),eI (b:Int)]]:=by rw [hs2];simp
      repeat' first|refine gf (kf @hlb er) ?_|decide|refine sp ?_ ?_<;>intro _|refine cA hR1 ?_|refine cA hH ?_|(with_reducible apply And.intro)
      all_goals first
       | rfl
       | omega
       | exact rI (wS [2] et) ⟨b+1,by omega,rfl⟩
     | false=>
      rw [hh,KY (by simp),Ln] at hs2;rw [hh] at hH
      repeat' first|refine gf (kf @hlb er) ?_|decide|refine sp ?_ ?_<;>intro _|refine cA hR1 ?_|refine cA hH ?_|fail
      all_goals exact rI (wE hs2) ⟨b+1,by omega,rfl⟩
    .obtain rfl:b=c+1:=by omega
     have hs:fx T c (a+1)=fx T c a ++ de T a (c+1):=rfl
     repeat' first|refine gf (kf @hlb er) ?_|decide|refine sp ?_ ?_<;>intro _|refine cA hR1 ?_|fail
     all_goals exact rI (wE hs) ⟨a+1,by omega,rfl⟩
   .obtain rfl:a=c+1:=by omega
    repeat' first|refine gf (kf @hla er) ?_|decide|refine sp ?_ ?_<;>intro _|refine cA hR1 ?_|fail
    all_goals exact xv rfl jm
  .have d3:(bL g r == cj r)=false:=LJ.2 hcap;have hqq:bL g r=(q:Int):=by unfold Fb at hq;rw [KY hcap] at hq;exact hq
   rw [hqq] at hC d3
   repeat' first|refine gf (kf d1 (kf d2 (kf d3 er))) ?_|decide|refine sp ?_ ?_<;>intro _|refine cA hC ?_|refine cA hR ?_|refine cA hT ?_|fail
   refine af (fun st=>∃ a:Nat,a<=c+1 /\ st=⟨55,[(1,eI r),(5,.osl 0),(7,.sl 2 (T.map eP)),(8,eI (a:Int))],[(0,some (.row 221 2 ((fx T c a).map eP)))],1⟩) (fun st=>c+1 - ap st 8) ⟨_,((bf 5 221 2 (by simp only [iu,ak.get,bl,ak.put,↓reduceIte,reduceCtorEq,Nat.reduceLT,Nat.reduceEqDiff,Nat.reduceAdd,Nat.reduceLeDiff,eq_self,implies_true,fx,Lq])).trans (wS [0] (kf @fx.eq_1 @fx.eq_2))),0,KR _,rfl⟩ ?_;rintro _ ⟨a,ha,rfl⟩;by_cases hla:a<=c
   .repeat' first|refine gf (kf @hla er) ?_|decide|refine sp ?_ ?_<;>intro _|refine cA hR1 ?_|fail
    refine af (fun st=>∃ b:Nat,b<=c+1 /\ st=⟨55,[(1,eI r),(5,.osl 0),(7,.sl 2 (T.map eP)),(8,eI (a:Int)),(9,eI (b:Int))],[(0,some (.row 221 2 ((fx T c a ++ de T a b).map eP)))],1⟩) (fun st=>c+1 - ap st 9) ⟨_,(wE (kf @de.eq_1 (kf @L7 @MZ))),0,KR _,rfl⟩ ?_;rintro _ ⟨b,hb,rfl⟩;by_cases hlb:b<=c
    .have hH:=wg T (a:Int) (b:Int) (by omega);have hs:=nF T a b;have hlen:=hb1 a b ha hb;obtain ⟨O,hO⟩:∃ O,O=fx T c a ++ de T a b:=⟨_,rfl⟩;have hs2:fx T c a ++ de T a (b+1)=O ++ (if jY T (a:Int) (b:Int)=true then [((a:Int),(b:Int))] else []):=(by rw [hs,hO,KZ]);rw [<- hO] at hlen ⊢
     cases hh:jY T (a:Int) (b:Int) with
     | true=>
      rw [hh,K5 rfl] at hs2;rw [hh] at hH;have et:(fx T c a ++ de T a (b+1)).map eP=O.map eP ++ [[eI (a:Int),eI (b:Int)]]:=by rw [hs2];simp
      repeat' first|refine gf (kf @hlb er) ?_|decide|refine sp ?_ ?_<;>intro _|refine cA hR1 ?_|refine cA hH ?_|(with_reducible apply And.intro)
      all_goals first
       | rfl
       | omega
       | exact rI (wS [2] et) ⟨b+1,by omega,rfl⟩
     | false=>
      rw [hh,KY (by simp),Ln] at hs2;rw [hh] at hH
      repeat' first|refine gf (kf @hlb er) ?_|decide|refine sp ?_ ?_<;>intro _|refine cA hR1 ?_|refine cA hH ?_|fail
      all_goals exact rI (wE hs2) ⟨b+1,by omega,rfl⟩
    .obtain rfl:b=c+1:=by omega
     have hs:fx T c (a+1)=fx T c a ++ de T a (c+1):=rfl
     repeat' first|refine gf (kf @hlb er) ?_|decide|refine sp ?_ ?_<;>intro _|refine cA hR1 ?_|fail
     all_goals exact rI (wE hs) ⟨a+1,by omega,rfl⟩
   .obtain rfl:a=c+1:=by omega
    repeat' first|refine gf (kf @hla er) ?_|decide|refine sp ?_ ?_<;>intro _|refine cA hR1 ?_|fail
    all_goals exact xv rfl jm
end
section
def gk (L:List Int) (r:Int) (k:Nat):List Int:=(List.range (k - 1)).map fun i=>lx (L.getD i 0) (L.getD (i+1) 0) (cj r)
theorem wb (L:List Int) (r:Int) (k:Nat):gk L r (k+2)=gk L r (k+1) ++ [lx (L.getD k 0) (L.getD (k+1) 0) (cj r)]:=by
 unfold gk;rw [show k+2 - 1=k+1 by omega,show k+1 - 1=k by omega,LX,Lr];rfl
def lI (vals c:List Int) (r:Int):Zn:=⟨Aa vals c,gk (gJ vals c) r (gJ vals c).length⟩
theorem nb (vals:List Int) (n:Int):∀ k,aq (dz vals n k)
 | 0=>by unfold dz aq;omega
 | k+1=>by
  unfold dz;split
  .exact cw (mF _ _)
  .exact nb vals n k
theorem Fp (r:Int):cj r<=4294967296:=by
 have h1:(2:Nat) ^ (min r.toNat 20)<=2 ^ 20:=Lu (by omega) (by omega);have h2:((2 ^ (min r.toNat 20):Nat):Int)=(2:Int) ^ (min r.toNat 20):=by simp
 unfold cj;omega
theorem CX (vals c:List Int) (r:Int) (h1:vals.length<=31) (h2:c.length<=400) (hv:∀ x ∈ vals,aq x) (hc:∀ x ∈ c,aq x):aw Tryz.prog 118 [sI vals,sI c,eI r] ⟨.agg (bW (lI vals c r)),[],0⟩:=by
 refine aw.still (R:=⟨.agg [.osl 0,.osl 1],[(0,some (.row 128 2 ((Aa vals c).map bR))),(1,some (.row 3 1 ((gk (gJ vals c) r (gJ vals c).length).map fun n=>[eI n])))],2⟩) [0,1] ?_ (by simp [ce.frzs,ce.frz,aa.gc,AV.frz,AV.frzL,bK,ar.frz,lI]) (by simp [AV.lt,AV.ltL]);refine ab ah Tryz.func118 rfl (by decide) Tryz.ntmps118 Tryz.results118 rfl (jr (by simp [cg,ar.lt,AV.ltL,AV.lt]) (by simp [AV.lt,AV.ltL])) ?_;have hS:=eQ c (by omega);have hN:=tG vals c (by omega) h2;have hLlen:(gJ vals c).length<=431:=by have:=cW (vals ++ c);simp at this;unfold gJ;omega
 have hSlen:(aP c).length<=400:=by have:=cW c;omega
 have hLok:∀ x ∈ gJ vals c,aq x:=fun x hx=>by
  have:=((dJ (vals ++ c)).2 x).1 hx;rcases K2.1 this with h|h
  .exact hv x h
  .exact hc x h
 have hcl:∀ k,(Aa vals c).take k=((gJ vals c).take k).map (xH vals c):=fun k=>by unfold Aa;rw [List.map_take]
 have hgt:decide (31<(vals.length:Int))=false:=by simp only [Lc];omega
 have hgt2:decide (31<vals.length)=false:=by simp only [Lc];omega
 have hcls:Aa vals c=(gJ vals c).map (xH vals c):=rfl;obtain ⟨cf,hcf⟩:∃ f,xH vals c=f:=⟨_,rfl⟩;obtain ⟨sc,hsc⟩:∃ sc,aP c=sc:=⟨_,rfl⟩;obtain ⟨L,hL⟩:∃ L,gJ vals c=L:=⟨_,rfl⟩;rw [hcls,hcf];rw [hsc] at hS hSlen;rw [hL] at hN hLlen hLok ⊢;have hcfv:∀ n,cf n=⟨dz vals n vals.length,fl sc n sc.length⟩:=fun n=>by rw [<- hcf,<- hsc];rfl
 repeat' first|refine gf (kf @hgt @hgt2) ?_|decide|refine sp ?_ ?_<;>intro _|refine cA hS ?_|refine cA hN ?_|fail
 refine af (fun st=>∃ k:Nat,k<=L.length /\ st=⟨94,[(0,sI vals),(2,eI r),(6,.op 0 0 0),(7,sI sc),(8,sI L),(9,.op 1 0 0),(10,eI (k:Int))],[(0,some (.box 60 [.c (.slice none 0 0),.c (.slice none 0 0)])),(1,some (.box 60 [.osl 2,.osl 3])),(2,some (.row 128 2 ((L.take k).map fun n=>bR (cf n)))),(3,some (.row 3 1 ((gk L r k).map fun n=>[eI n])))],4⟩) (fun st=>L.length - ap st 10)
  ⟨_,((cH 1 0 128 2 (t:=60) (cells:=[.c (.slice none 0 0),.c (.slice none 0 0)]) (by simp [aa.gc]) rfl).trans ((cH 1 1 3 1 (t:=60) (cells:=[.osl 2,.c (.slice none 0 0)]) (by simp [aa.gc]) rfl).trans (wE (kf @Ms (kf @Mt (kf @Lb (kf @gk.eq_1 (kf @L7 @Nat.zero_sub)))))))),0,KR _,rfl⟩ ?_
 rintro _ ⟨k,hk,rfl⟩;by_cases hlt:k<L.length
 .obtain ⟨n,hn⟩:∃ n,L[k]=n:=⟨_,rfl⟩
  repeat' first|refine gf @hlt ?_|decide|refine sp ?_ ?_<;>intro _
  refine af (fun st=>∃ i:Nat,i<=vals.length /\ st=⟨94,[(0,sI vals),(2,eI r),(6,.op 0 0 0),(7,sI sc),(8,sI L),(9,.op 1 0 0),(10,eI (k:Int)),(11,.op 4 0 0),(12,eI (i:Int))],[(0,some (.box 60 [.c (.slice none 0 0),.c (.slice none 0 0)])),(1,some (.box 60 [.osl 2,.osl 3])),(2,some (.row 128 2 ((L.take k).map fun n=>bR (cf n)))),(3,some (.row 3 1 ((gk L r k).map fun n=>[eI n]))),(4,some (.box 128 [eI (dz vals n i),eI (-1)]))],5⟩) (fun st=>vals.length - ap st 12) ⟨_,(wE (kf @dz.eq_1 @dz.eq_2)),0,KR _,rfl⟩ ?_;rintro _ ⟨i,hi,rfl⟩;by_cases hi2:i<vals.length
  .have hP:=pz (dz vals n i) (i:Int) true (nb vals n i) (by omega) (by omega);by_cases he:vals[i]=n
   .have hev:(vals[i] == n)=true:=by simpa using he
    have hst:dz vals n (i+1)=cQ (dz vals n i) (i:Int):=by
     rw [dz,K5 (by rw [KP,KN hi2];exact he)]
    repeat' first|refine gq ?_|simp only [ae,hi2,hlt,hn,hev]|decide|refine sp ?_ ?_<;>intro _|refine cA hP ?_|fail
    all_goals exact rI (wE @hst) ⟨i+1,by omega,rfl⟩
   .have hev:(vals[i] == n)=false:=by simpa using he
    have hst:dz vals n (i+1)=dz vals n i:=by
     rw [dz,KY (by rw [KP,KN hi2];exact he)]
    repeat' first|refine gq ?_|simp only [ae,hi2,hlt,hn,hev]|decide|refine sp ?_ ?_<;>intro _
    all_goals exact rI (wE @hst) ⟨i+1,by omega,rfl⟩
  .obtain rfl:i=vals.length:=by omega
   obtain ⟨A,hA⟩:∃ A,dz vals n vals.length=A:=⟨_,rfl⟩;rw [hA]
   repeat' first|refine gf hi2 ?_|decide|refine sp ?_ ?_<;>intro _
   refine af (fun st=>∃ i:Nat,i<=sc.length /\ st=⟨94,[(0,sI vals),(2,eI r),(6,.op 0 0 0),(7,sI sc),(8,sI L),(9,.op 1 0 0),(10,eI (k:Int)),(11,.op 4 0 0),(13,eI (i:Int))],[(0,some (.box 60 [.c (.slice none 0 0),.c (.slice none 0 0)])),(1,some (.box 60 [.osl 2,.osl 3])),(2,some (.row 128 2 ((L.take k).map fun n=>bR (cf n)))),(3,some (.row 3 1 ((gk L r k).map fun n=>[eI n]))),(4,some (.box 128 [eI A,eI (fl sc n i)]))],5⟩) (fun st=>sc.length - ap st 13) ⟨_,(wE (kf @fl.eq_1 @fl.eq_2)),0,KR _,rfl⟩ ?_;rintro _ ⟨i,hi,rfl⟩;by_cases hi3:i<sc.length
   .by_cases he:sc[i]=n
    .have hev:(sc[i] == n)=true:=by simpa using he
     have hst:fl sc n (i+1)=(i:Int):=by
      rw [fl,K5 (by rw [KP,KN hi3];exact he)]
     repeat' first|refine gq ?_|simp only [ae,hi3,hlt,hn,hev]|decide|refine sp ?_ ?_<;>intro _
     all_goals exact rI (wE @hst) ⟨i+1,by omega,rfl⟩
    .have hev:(sc[i] == n)=false:=by simpa using he
     have hst:fl sc n (i+1)=fl sc n i:=by
      rw [fl,KY (by rw [KP,KN hi3];exact he)]
     repeat' first|refine gq ?_|simp only [ae,hi3,hlt,hn,hev]|decide|refine sp ?_ ?_<;>intro _
     all_goals exact rI (wE @hst) ⟨i+1,by omega,rfl⟩
   .obtain rfl:i=sc.length:=by omega
    have hx:cf n=⟨A,fl sc n sc.length⟩:=(by rw [hcfv,hA]);have hsn:(L.take (k+1)).map (fun n=>bR (cf n))=(L.take k).map (fun n=>bR (cf n)) ++ [[eI A,eI (fl sc n sc.length)]]:=(by rw [eU _ L hlt,hn,hx]);have htl:(L.take k).length<=431:=by rw [K6];omega
    obtain ⟨C,hC⟩:∃ C,fl sc n sc.length=C:=⟨_,rfl⟩;rw [hC] at hsn ⊢
    cases k with
    | zero=>
     have hg:gk L r (0+1)=gk L r 0:=rfl;have d1:decide (0<((0:Nat):Int))=false:=(by decide);have d2:decide (0<0)=false:=(by decide)
     repeat' first|refine gf (kf hi3 (kf d1 d2)) ?_|decide|refine sp ?_ ?_<;>intro _|(with_reducible apply And.intro)
     all_goals first
      | rfl
      | omega
      | (simp;omega)
      | exact rI (wS [0,1,6,3] (kf @hsn hg)) ⟨0+1,by omega,rfl⟩
    | succ k=>
     have hk0:k<L.length:=(by omega);have hgs:=wb L r k;have e0:L.getD k 0=L[k]:=by rw [KP,KN hk0];rfl
     have e1:L.getD (k+1) 0=n:=by rw [KP,KN hlt];exact hn
     rw [e0,e1] at hgs;have hgl:(gk L r (k+1)).length<=431:=by simp [gk];omega
     have hG:=F4 L[k] n (cj r) (hLok _ (KQ hk0)) (hn ▸ hLok _ (KQ hlt)) (Fp r);have hCp:=qQ r;have ek:IntKind.i64.wrap (((k+1:Nat):Int) - 1)=(k:Int):=by rw [ay (by omega) (by omega)];omega
     have d1:decide (0<((k+1:Nat):Int))=true:=by simp only [Lp];omega
     have d2:decide (0<k+1)=true:=(by simp);have hgm:(gk L r (k+2)).map (fun n=>[eI n])=(gk L r (k+1)).map (fun n=>[eI n]) ++ [[eI (lx L[k] n (cj r))]]:=by rw [hgs];simp
     repeat' first|refine ge (kf hi3 (kf d1 d2)) ?_|decide|refine sp ?_ ?_<;>intro _
     refine aB [1,3] [0,2,3,4,5,6,7,8,9,10,11] (.two 1 (.exec 12 (.exec 13 (.exec 14 (.exec 15 (.take 16 (.exec 17 .done)))))) 12 (.two 1 (.exec 13 (.exec 14 (.exec 15 (.take 16 (.exec 17 .done))))) 13 (.two 1 (.exec 14 (.exec 15 (.take 16 (.exec 17 .done)))) 14 (.exec 1 (.exec 15 (.take 16 (.exec 17 .done))))))) (by kernel_rfl) (by simp [aa.gc]) ?_
     repeat' first|refine gq ?_|simp only [ae,hlt,hk0,hn,ek]|decide|refine sp ?_ ?_<;>intro _|refine cA hCp ?_|refine cA hG ?_|(with_reducible apply And.intro)
     all_goals first
      | rfl
      | omega
      | (simp;omega)
      | exact rI (wS [0,1,8,6] (kf @hsn @hgm)) ⟨k+1+1,by omega,rfl⟩
 .obtain rfl:k=L.length:=by omega
  repeat' first|refine gf (kf @hlt @K7) ?_|decide|refine sp ?_ ?_<;>intro _
  exact ⟨[2,3],by decide,rfl,by simp [b9,aa.gc]⟩
end
end
section
section
def Jw (z:Zn) (i:Nat) (r:Int) (k:Nat):Int:=if k=i+1 then bL (bL (z.gaps.getD (i - 1) 0) r+bL (z.gaps.getD i 0) r+1) r else z.gaps.getD (k - 1) 0
instance:Inhabited dN:=⟨⟨0,0⟩⟩
def kQ (z:Zn) (i:Nat) (r:Int):Nat -> Zn
 | 0=>⟨[],[]⟩
 | k+1=>if k=i then kQ z i r k else ⟨(kQ z i r k).cls ++ [z.cls.getD k default],if (kQ z i r k).cls.length=0 then (kQ z i r k).gaps else (kQ z i r k).gaps ++ [Jw z i r k]⟩
theorem sQ (z:Zn) (i:Nat) (r:Int):∀ k,(kQ z i r k).cls.length=if i<k then k - 1 else k
 | 0=>by simp [kQ]
 | k+1=>by
  have h:=sQ z i r k;rw [kQ];split
  .rename_i e;rw [h,e,KY (by omega),K5 (by omega)];omega
  .rename_i e;rw [f4,Lo,h];split<;>split<;>omega
theorem pr (z:Zn) (i:Nat) (r:Int):∀ k,(kQ z i r k).gaps.length=(kQ z i r k).cls.length - 1
 | 0=>by simp [kQ]
 | k+1=>by
  have h:=pr z i r k;rw [kQ];split
  .exact h
  .simp only [f4,Lo];split
   .rw [h];omega
   .rw [f4,Lo,h];omega
theorem zf (z:Zn) (i:Nat) (r:Int) (hi:i<z.cls.length) (hc:z.cls.length<=1000000) (hg:z.gaps.length=z.cls.length - 1):aw Tryz.prog 155 [.agg (bW z),eI (i:Int),eI r] ⟨.agg (bW (kQ z i r z.cls.length)),[],0⟩:=by
 refine aw.still (R:=⟨.agg [.osl 0,.osl 1],[(0,some (.row 128 2 ((kQ z i r z.cls.length).cls.map bR))),(1,some (.row 3 1 ((kQ z i r z.cls.length).gaps.map fun n=>[eI n])))],2⟩) [0,1] ?_ (by simp [ce.frzs,ce.frz,aa.gc,AV.frz,AV.frzL,bK,ar.frz]) (by simp [AV.lt,AV.ltL]);refine ab ah Tryz.func155 rfl (by decide) Tryz.ntmps155 Tryz.results155 rfl (jr (by simp [cg,ar.lt,AV.ltL,AV.lt]) (by simp [AV.lt,AV.ltL])) ?_;have ei:IntKind.i64.wrap ((i:Int) - 1)=(i:Int) - 1:=ay (by omega) (by omega)
 repeat' first|refine go ?_|decide|refine sp ?_ ?_<;>intro _
 refine af (fun st=>∃ k:Nat,k<=z.cls.length /\ st=⟨66,[(1,eI (i:Int)),(2,eI r),(3,.op 0 0 0),(6,.op 1 0 0),(7,.op 2 0 0),(8,eI (k:Int))],[(0,some (.box 60 (bW z))),(1,some (.box 60 [.c (.slice none 0 0),.c (.slice none 0 0)])),(2,some (.box 60 [.osl 3,.osl 4])),(3,some (.row 128 2 ((kQ z i r k).cls.map bR))),(4,some (.row 3 1 ((kQ z i r k).gaps.map fun n=>[eI n])))],5⟩) (fun st=>z.cls.length - ap st 8)
  ⟨_,((cH 2 0 128 2 (t:=60) (cells:=[.c (.slice none 0 0),.c (.slice none 0 0)]) (by simp [aa.gc]) rfl).trans ((cH 2 1 3 1 (t:=60) (cells:=[.osl 3,.c (.slice none 0 0)]) (by simp [aa.gc]) rfl).trans (wE (kf @Ms (kf @Mt (kf @kQ.eq_1 @kQ.eq_2)))))),0,KR _,rfl⟩ ?_
 rintro _ ⟨k,hk,rfl⟩;by_cases hlt:k<z.cls.length
 .have hl1:=sQ z i r k;have hl2:=pr z i r k;have hs:=kQ.eq_2 z i r k;have hW:(kQ z i r k).cls.length<=1000000:=by rw [hl1];split<;>omega
  obtain ⟨x,hx⟩:∃ x,z.cls[k]=x:=⟨_,rfl⟩;have hxg:z.cls.getD k default=x:=by rw [KP,KN hlt,<- hx];rfl
  have hrx:(z.cls.map bR)[k]?.getD []=bR x:=by simp [hlt,hx]
  rw [hxg] at hs;obtain ⟨o,ho⟩:∃ o,o=kQ z i r k:=⟨_,rfl⟩;rw [<- ho] at hs hl1 hl2 hW ⊢;by_cases he:k=i
  .have d1:((k:Int) == (i:Int))=true:=MC.2 (by omega);rw [K5 he] at hs
   repeat' first|refine gf (kf @hlt d1) ?_|decide|refine sp ?_ ?_<;>intro _
   all_goals exact rI (wE hs) ⟨k+1,by omega,rfl⟩
  .have d1:((k:Int) == (i:Int))=false:=LJ.2 (by omega);rw [KY he] at hs;have hcm:((kQ z i r (k+1)).cls).map bR=o.cls.map bR ++ [bR x]:=by rw [hs];simp
   by_cases h0:o.cls.length=0
   .have d2:decide ((0:Int)<(o.cls.length:Int))=false:=K0 (by omega);have hgm:(kQ z i r (k+1)).gaps=o.gaps:=by rw [hs];simp [h0]
    repeat' first|refine ge (kf @hlt (kf d1 d2)) ?_|decide|refine sp ?_ ?_<;>intro _
    refine aB [2,3] [0,2,3,4,5,6] (.two 1 (.exec 7 (.exec 8 (.take 9 (.exec 10 .done)))) 7 (.exec 1 (.exec 8 (.take 9 (.exec 10 .done))))) (by kernel_rfl) (by simp [aa.gc]) ?_
    repeat' first|refine gf (kf @hrx @hlt) ?_|decide|refine sp ?_ ?_<;>intro _|(with_reducible apply And.intro)
    all_goals first
     | rfl
     | omega
     | exact rI (wS [0,1,2,6,4] (kf @hcm @hgm)) ⟨k+1,by omega,rfl⟩
   .have d2:decide ((0:Int)<(o.cls.length:Int))=true:=K4 (by omega)
    have hk1:1<=k:=by
     rw [hl1] at h0;split at h0<;>omega
    have hgm:(kQ z i r (k+1)).gaps.map (fun n=>[eI n])=o.gaps.map (fun n=>[eI n]) ++ [[eI (Jw z i r k)]]:=by rw [hs];simp [h0]
    have ek:IntKind.i64.wrap ((k:Int) - 1)=((k - 1:Nat):Int):=by rw [ay (by omega) (by omega)];omega
    have hkg:k - 1<z.gaps.length:=(by omega);obtain ⟨y,hy⟩:∃ y,z.gaps[k - 1]=y:=⟨_,rfl⟩;have hry:(z.gaps.map fun n=>[eI n])[k - 1]?.getD []=[eI y]:=(by simp [hkg,hy]);by_cases h1:k=i+1
    .have d3:(((k - 1:Nat):Int) == (i:Int))=true:=MC.2 (by omega)
     have hi1:1<=i:=by
      rw [hl1] at h0;split at h0<;>omega
     have ei2:IntKind.i64.wrap ((i:Int) - 1)=((i - 1:Nat):Int):=by rw [ei];omega
     have hig:i - 1<z.gaps.length:=(by omega);obtain ⟨u,hu⟩:∃ u,z.gaps[i - 1]=u:=⟨_,rfl⟩;have hru:(z.gaps.map fun n=>[eI n])[i - 1]?.getD []=[eI u]:=(by simp [hig,hu]);have c1:=ld u r;have c2:=ld y r;have hb1:=mH u r;have hb2:=mH y r;have hb3:=fp r
     have eG:Jw z i r k=bL (bL u r+bL y r+1) r:=by
      rw [Jw,K5 h1,KP,KN hig,KP,KN (by omega),Lm,Lm,hu];simp only [<- hy,h1,MU]
     rw [eG] at hgm;obtain ⟨p,hp⟩:∃ p,p=bL u r:=⟨_,rfl⟩;obtain ⟨q,hq⟩:∃ q,q=bL y r:=⟨_,rfl⟩;rw [<- hp] at c1 hb1;rw [<- hq] at c2 hb2;rw [<- hp,<- hq] at hgm;have e1:IntKind.i64.wrap (p+q)=p+q:=ay (by omega) (by omega);have e2:IntKind.i64.wrap (p+q+1)=p+q+1:=ay (by omega) (by omega);have c3:=ld (p+q+1) r;have hgl:o.gaps.length<=1000000:=(by omega)
     repeat' first|refine gf (kf @hlt (kf d1 (kf d2 (kf d3 (kf ek (kf ei2 (kf @hkg (kf @hig (kf @hry (kf @hru (kf e1 e2))))))))))) ?_|decide|refine sp ?_ ?_<;>intro _|refine cA c1 ?_|refine cA c2 ?_|refine cA c3 ?_|fail
     refine ⟨rfl,⟨by omega,by omega⟩,?_⟩;refine aB [2,3] [0,2,3,4,5,6] (.two 1 (.exec 7 (.exec 8 (.take 9 (.exec 10 .done)))) 7 (.exec 1 (.exec 8 (.take 9 (.exec 10 .done))))) (by kernel_rfl) (by simp [aa.gc]) ?_
     repeat' first|refine gf (kf @hrx @hlt) ?_|decide|refine sp ?_ ?_<;>intro _|(with_reducible apply And.intro)
     all_goals first
      | rfl
      | omega
      | exact rI (wS [0,1,2,8,6] (kf @hcm @hgm)) ⟨k+1,by omega,rfl⟩
    .have d3:(((k - 1:Nat):Int) == (i:Int))=false:=LJ.2 (by omega);have eG:Jw z i r k=y:=(by rw [Jw,KY h1,KP,KN hkg,Lm,hy]);rw [eG] at hgm;have hgl:o.gaps.length<=1000000:=(by omega)
     repeat' first|refine gf (kf @hlt (kf d1 (kf d2 (kf d3 (kf ek (kf @hkg @hry)))))) ?_|decide|refine sp ?_ ?_<;>intro _
     refine ⟨rfl,⟨by omega,by omega⟩,?_⟩;refine aB [2,3] [0,2,3,4,5,6] (.two 1 (.exec 7 (.exec 8 (.take 9 (.exec 10 .done)))) 7 (.exec 1 (.exec 8 (.take 9 (.exec 10 .done))))) (by kernel_rfl) (by simp [aa.gc]) ?_
     repeat' first|refine gf (kf @hrx @hlt) ?_|decide|refine sp ?_ ?_<;>intro _|(with_reducible apply And.intro)
     all_goals first
      | rfl
      | omega
      | exact rI (wS [0,1,2,8,6] (kf @hcm @hgm)) ⟨k+1,by omega,rfl⟩
 .obtain rfl:k=z.cls.length:=by omega
  repeat' first|refine gf @hlt ?_|decide|refine sp ?_ ?_<;>intro _
  exact ⟨[3,4],by decide,rfl,by simp [b9,aa.gc]⟩
structure kV (N:Nat) (z:Zn):Prop where
 cl:z.cls.length<=N
 ga:z.gaps.length<=N
 at_:∀ x ∈ z.cls,aq x.attrs
def oh (z:Zn) (a:Int) (i:Nat):Zn:=⟨z.cls.set i ⟨bN (z.cls.getD i default).attrs a,(z.cls.getD i default).const⟩,z.gaps⟩
def yi (a r:Int):Nat -> Zn -> Nat -> Zn
 | 0,z,_=>z
 | n+1,z,i=>
  if z.cls.length<=i then z
  else if aW (z.cls.getD i default).attrs a=false then yi a r n z (i+1)
  else if bN (z.cls.getD i default).attrs a=0 /\ (z.cls.getD i default).const = -1 then yi a r n (kQ (oh z a i) i r z.cls.length) i
  else yi a r n (oh z a i) (i+1)
def dL (z:Zn) (a r:Int):Zn:=if (z.gaps.length:Int)=max ((z.cls.length:Int) - 1) 0 then yi a r z.cls.length z 0 else z
theorem ua (s i:Int):aq (bN s i):=cw (jT s i)
theorem oe (z:Zn) (i:Nat) (r:Int):∀ k,k<=z.cls.length -> ∀ x ∈ (kQ z i r k).cls,x ∈ z.cls
 | 0,_,x,hx=>by simp [kQ] at hx
 | k+1,hk,x,hx=>by
  rw [kQ] at hx;split at hx
  .exact oe z i r k (by omega) x hx
  .rcases K2.1 hx with h | h
   .exact oe z i r k (by omega) x h
   .simp only [K9] at h;subst h;rw [KP,KN (by omega),Lm];exact KQ _
theorem yl (z:Zn) (a:Int) (i:Nat):(oh z a i).cls.length=z.cls.length:=by simp [oh]
theorem B7 {z:Zn} (a:Int) (i:Nat) (h:∀ x ∈ z.cls,aq x.attrs):∀ x ∈ (oh z a i).cls,aq x.attrs:=by
 intro x hx;rcases LS hx with h1|h1
 .exact h x h1
 .rw [h1];exact ua _ _
theorem uc (z:Zn) (i:Nat) (r:Int) (hi:i<z.cls.length):(kQ z i r z.cls.length).cls.length=z.cls.length - 1 /\ (kQ z i r z.cls.length).gaps.length=z.cls.length - 1 - 1:=by
 have h1:=sQ z i r z.cls.length;rw [K5 hi] at h1;exact ⟨h1,by rw [pr,h1]⟩
def Ku (st:ak):Nat:=match st.tab.get 0 with
 | some (.box _ (.sl _ rows :: _))=>rows.length - ap st 7
 | _=>0
theorem G2 (z:Zn) (a r:Int) {N:Nat} (hN:N<=1000000) (hz:kV N z) (ha:0<=a /\ a<31):aw Tryz.prog 124 [.agg (bW z),eI a,eI r] ⟨.agg (bW (dL z a r)),[],0⟩:=by
 have hcl:=hz.cl;refine ab ah Tryz.func124 rfl (by decide) Tryz.ntmps124 Tryz.results124 rfl (⟨fun id o h=>(by cases h),⟨trivial,trivial,trivial⟩⟩) ?_;have ew:IntKind.i64.wrap ((z.cls.length:Int) - 1)=(z.cls.length:Int) - 1:=ay (by omega) (by omega);by_cases hg:(z.gaps.length:Int)=max ((z.cls.length:Int) - 1) 0
 .have d0:((z.gaps.length:Int) != max ((z.cls.length:Int) - 1) 0)=false:=by simp [hg]
  have hD:dL z a r=yi a r z.cls.length z 0:=K5 hg;rw [hD];obtain ⟨Q,hQ⟩:∃ Q,Q=yi a r z.cls.length z 0:=⟨_,rfl⟩;rw [<- hQ]
  repeat' first|refine ge (kf ew d0) ?_|decide|refine sp ?_ ?_<;>intro _
  refine af (fun st=>∃ (n i:Nat) (y:Zn),(y.cls.length<=i+n /\ i<=y.cls.length /\ kV N y /\ y.gaps.length=y.cls.length - 1 /\ yi a r n y i=Q) /\ st=⟨75,[(1,eI a),(2,eI r),(3,.op 0 0 0),(6,.op 1 0 0),(7,eI (i:Int))],[(0,some (.box 60 (bW y))),(1,some (.box 60 [.c (.slice none 0 0),.c (.slice none 0 0)]))],2⟩) Ku ⟨_,wC,z.cls.length,0,z,⟨by omega,KR _,hz,by omega,hQ.symm⟩,rfl⟩ ?_;rintro _ ⟨n,i,y,⟨hn,hi,hy,hyg,hF⟩,rfl⟩;have hyl:=hy.cl
  have mu0:∀ (i':Nat) (y':Zn),Ku ⟨75,[(1,eI a),(2,eI r),(3,.op 0 0 0),(6,.op 1 0 0),(7,eI (i':Int))],[(0,some (.box 60 (bW y'))),(1,some (.box 60 [.c (.slice none 0 0),.c (.slice none 0 0)]))],2⟩=y'.cls.length - i':=fun i' y'=>by
   simp [Ku,ap,ak.get,bl,aa.gc]
  by_cases hlt:i<y.cls.length
  .obtain ⟨x,hx⟩:∃ x,y.cls[i]=x:=⟨_,rfl⟩;have hxg:y.cls.getD i default=x:=by rw [KP,KN hlt,<- hx];rfl
   have hrx:(y.cls.map bR)[i]?.getD []=bR x:=(by simp [hlt,hx]);have hxo:aq x.attrs:=hy.at_ x (hx ▸ KQ hlt);have hH:=dk x.attrs a hxo;have hP:=pz x.attrs a false hxo ha.1 ha.2;obtain ⟨n,rfl⟩:∃ n',n=n'+1:=⟨n - 1,by omega⟩;rw [yi,KY (by omega),hxg] at hF
   cases hb:aW x.attrs a with
   | false=>
    rw [hb,K5 rfl] at hF;rw [hb] at hH
    repeat' first|refine gf (kf @hrx @hlt) ?_|decide|refine sp ?_ ?_<;>intro _|refine cA hH ?_|fail
    all_goals exact fZ wC ⟨n,i+1,y,⟨by omega,by omega,hy,hyg,hF⟩,rfl⟩ (by rw [mu0,mu0];omega)
   | true=>
    rw [hb,KY (by simp)] at hF;rw [hb] at hH;rw [KY (by simp)] at hP;obtain ⟨v,hv⟩:∃ v,v=bN x.attrs a:=⟨_,rfl⟩;rw [<- hv] at hF hP;have hset:(y.cls.map bR).set i [eI v,eI x.const]=(oh y a i).cls.map bR:=(by rw [oh,hxg,<- hv,MW]);have hdl:=yl y a i
    repeat' first|refine ge (kf @hrx @hlt) ?_|decide|refine sp ?_ ?_<;>intro _
    refine aA hH ?_
    repeat' first|refine ge (kf @hrx @hlt) ?_|decide|refine sp ?_ ?_<;>intro _
    refine ⟨rfl,⟨by omega,by omega⟩,?_⟩;refine aA hP ?_;have h3:i<(oh y a i).cls.length:=(by omega)
    have hr3:((oh y a i).cls.map bR)[i]?.getD []=[eI v,eI x.const]:=by
     rw [<- hset];simp [hlt]
    have hdo:=B7 a i hy.at_;have hdg:(oh y a i).gaps=y.gaps:=rfl;have hdz:bW (oh y a i)=[.sl 2 ((oh y a i).cls.map bR),sI y.gaps]:=rfl;by_cases h0:v=0 /\ x.const = -1
    .have b1:(v == 0)=true:=MC.2 h0.1;have b2:(x.const == -1)=true:=MC.2 h0.2;rw [K5 h0,<- hdl] at hF;have hW:=zf (oh y a i) i r h3 (by omega) (by rw [hdg,hdl];exact hyg);obtain ⟨w1,w2⟩:=uc (oh y a i) i r h3;have w3:=oe (oh y a i) i r _ (KW _);obtain ⟨W,hWe⟩:∃ W,W=kQ (oh y a i) i r (oh y a i).cls.length:=⟨_,rfl⟩;rw [<- hWe] at hF hW w1 w2 w3
     repeat' first|refine ge (kf @hrx (kf @hlt (kf @hset (kf h3 (kf hr3 (kf b1 b2)))))) ?_|decide|refine sp ?_ ?_<;>intro _
     refine qH [3] (R:=⟨.agg (bW W),[],0⟩) ?_ ?_ ?_
     .repeat' first|decide|refine go ?_
      exact hW
     .repeat' first|decide|refine go ?_
      left;simp [gb,iv,bu,b7]
     .repeat' first|refine ge @dp ?_|decide|refine sp ?_ ?_<;>intro _
      exact fZ wC ⟨n,i,W,⟨by omega,by omega,⟨by omega,by omega,fun u hu=>hdo u (w3 u hu)⟩,by omega,hF⟩,rfl⟩ (by rw [mu0,mu0];omega)
    .rw [KY h0] at hF;by_cases h1:v=0
     .have b1:(v == 0)=true:=MC.2 h1;have b2:(x.const == -1)=false:=LJ.2 fun e=>h0 ⟨h1,e⟩
      repeat' first|refine ge (kf @hrx (kf @hlt (kf @hset (kf h3 (kf hr3 (kf b1 b2)))))) ?_|decide|refine sp ?_ ?_<;>intro _
      refine fZ ((uF _ 3).trans ?_) ⟨n,i+1,oh y a i,⟨by omega,by omega,⟨by omega,by rw [hdg];omega,hdo⟩,by rw [hdg,hdl];exact hyg,hF⟩,rfl⟩ (by rw [mu0,mu0];omega);simp only [gx,f9,bK,aa.gc,ar.frz,AV.frz,AV.frzL,↓reduceIte,Nat.reduceEqDiff,LE,Nat.one_ne_zero,reduceCtorEq,Nat.succ_ne_self];exact (wE @hdz)
     .have b1:(v == 0)=false:=LJ.2 h1
      repeat' first|refine ge (kf @hrx (kf @hlt (kf @hset (kf h3 (kf hr3 b1))))) ?_|decide|refine sp ?_ ?_<;>intro _
      refine fZ ((uF _ 3).trans ?_) ⟨n,i+1,oh y a i,⟨by omega,by omega,⟨by omega,by rw [hdg];omega,hdo⟩,by rw [hdg,hdl];exact hyg,hF⟩,rfl⟩ (by rw [mu0,mu0];omega);simp only [gx,f9,bK,aa.gc,ar.frz,AV.frz,AV.frzL,↓reduceIte,Nat.reduceEqDiff,LE,Nat.one_ne_zero,reduceCtorEq,Nat.succ_ne_self];exact (wE @hdz)
  .obtain rfl:i=y.cls.length:=by omega
   have hq:Q=y:=by
    cases n with
    | zero=>exact hF.symm
    | succ n=>rw [yi,K5 (KW _)] at hF;exact hF.symm
   rw [hq]
   repeat' first|refine gf @hlt ?_|decide|refine sp ?_ ?_<;>intro _
   all_goals exact vU rfl
 .have d0:((z.gaps.length:Int) != max ((z.cls.length:Int) - 1) 0)=true:=by simp [hg]
  have hD:dL z a r=z:=KY hg;rw [hD]
  repeat' first|refine ge (kf ew d0) ?_|decide|refine sp ?_ ?_<;>intro _
  exact vU rfl
end
end
section
section
theorem qD (l:List Int) (r:Int) (hl:l.length<=1000000):aw Tryz.prog 193 [sI l,eI r] (gi 3 1 (l.map fun n=>[eI (bL n r)])):=by
 refine ab ah Tryz.func193 rfl (by decide) Tryz.ntmps193 Tryz.results193 rfl (dB _ _ _) ?_
 repeat' first|refine go ?_|decide|refine sp ?_ ?_<;>intro _
 refine af (fun st=>∃ k:Nat,k<=l.length /\ st=⟨23,[(0,sI l),(1,eI r),(5,.osl 0),(6,eI (k:Int))],[(0,some (.row 3 1 ((l.take k).map fun n=>[eI (bL n r)])))],1⟩) (fun st=>l.length - ap st 6) ⟨_,((bf 5 3 1 (by simp only [iu,ak.get,bl,ak.put,↓reduceIte,reduceCtorEq,Nat.reduceLT,Nat.reduceEqDiff,Nat.reduceAdd,Nat.reduceLeDiff,eq_self,implies_true,Lb,Lq])).trans (wS [0] @Lb)),0,KR _,rfl⟩ ?_;rintro _ ⟨k,hk,rfl⟩;by_cases hlt:k<l.length
 .have et:(l.take (k+1)).map (fun n=>[eI (bL n r)])=(l.take k).map (fun n=>[eI (bL n r)]) ++ [[eI (bL l[k] r)]]:=eU _ _ hlt;obtain ⟨x,hx⟩:∃ x,x=l[k]:=⟨_,rfl⟩;have hrow:(l.map fun n=>[eI n])[k]?.getD []=[eI x]:=by rw [hx];simp [hlt]
  rw [<- hx] at et;have hc:=ld x r;have htl:(l.take k).length<=1000000:=by rw [K6];omega
  repeat' first|refine gf (kf @hrow @hlt) ?_|decide|refine sp ?_ ?_<;>intro _|refine cA hc ?_|(with_reducible apply And.intro)
  all_goals first
   | rfl
   | omega
   | exact rI (wS [2] et) ⟨k+1,by omega,rfl⟩
 .obtain rfl:k=l.length:=by omega
  repeat' first|refine gf (kf @hlt @K7) ?_|decide|refine sp ?_ ?_<;>intro _
  exact bk (by simp [aa.gc])
def lH (z:Zn) (r:Int):List Int:=z.gaps.map fun n=>bL n (r - 1)
def gp (z:Zn) (a:Int) (at_:Nat) (r:Int) (ahead:Nat) (come:List Int) (behind:Nat):Zn:=⟨z.cls.take at_ ++ ⟨cQ 0 a,-1⟩ :: z.cls.drop at_,(lH z r).take ahead ++ (come ++ (lH z r).drop behind)⟩
def k6 (z:Zn):ce:=⟨.agg [.osl 0,.osl 1],[(0,some (.row 128 2 (z.cls.map bR))),(1,some (.row 3 1 (z.gaps.map fun n=>[eI n])))],2⟩
theorem xL (z:Zn):(k6 z).Ok:=jr (by simp [k6,cg,ar.lt,AV.ltL,AV.lt]) (by simp [k6,AV.lt,AV.ltL])
theorem oy (z:Zn) (a:Int) (at_:Nat) (r:Int) (ahead:Nat) (come:List Int) (behind:Nat) {N:Nat} (hN:N<=1000000) (hz:kV N z) (ha:0<=a /\ a<31) (hat:at_<=z.cls.length) (hah:ahead<=z.gaps.length) (hbe:behind<=z.gaps.length) (hco:come.length<=10) (hr:-1000000<=r /\ r<=1000000) :
  aw Tryz.prog 152 [.agg (bW z),eI a,eI (at_:Int),eI r,eI (ahead:Int),sI come,eI (behind:Int)] (k6 (gp z a at_ r ahead come behind)):=by
 refine lh Tryz.func152 rfl (by decide) Tryz.ntmps152 Tryz.results152 rfl (xL _) ?_;have er:IntKind.i64.wrap (r - 1)=r - 1:=ay (by omega) (by omega);have hcl:=hz.cl;have hga:=hz.ga;have hCl:=qD z.gaps (r - 1) (by omega);have hP:=pz 0 a true (by simp [aq]) ha.1 ha.2;rw [K5 rfl] at hP;have hgl:(lH z r).length=z.gaps.length:=by simp [lH]
 have hgm:(z.gaps.map fun n=>[eI (bL n (r - 1))])=(lH z r).map fun n=>[eI n]:=by simp [lH]
 rw [hgm] at hCl;have hClT:=aw.still [0] hCl (r:=sI (lH z r)) (by simp [ce.frzs,ce.frz,gi,aa.gc,AV.frz]) (by simp [AV.lt]);have f0:List.drop (Int.toNat 0) (List.take at_ (z.cls.map bR))=(z.cls.take at_).map bR:=by simp
 have f1:List.drop at_ (List.take z.cls.length (z.cls.map bR))=(z.cls.drop at_).map bR:=by
  rw [Lj (by simp)];simp
 have f2:List.drop (Int.toNat 0) (List.take ahead ((lH z r).map fun n=>[eI n]))=((lH z r).take ahead).map fun n=>[eI n]:=by simp
 have f3:List.drop behind (List.take z.gaps.length ((lH z r).map fun n=>[eI n]))=((lH z r).drop behind).map fun n=>[eI n]:=by
  rw [Lj (by simp [hgl])];simp
 have l1:(z.cls.take at_).length<=1000000:=by rw [K6];omega
 have l2:(z.cls.drop at_).length<=1000000:=by rw [LG];omega
 have l3:((lH z r).take ahead).length<=1000000:=by rw [K6];omega
 have l4:((lH z r).drop behind).length<=1000000:=by rw [LG];omega
 have k2:(z.cls.take at_ ++ [(⟨cQ 0 a,-1⟩:dN)]).length<=1000001:=by rw [f4];simp only [Lo];omega
 have k3:((lH z r).take ahead ++ come).length<=1000010:=by rw [f4];omega
 have m2:(z.cls.take at_ ++ [(⟨cQ 0 a,-1⟩:dN)]).map bR=(z.cls.take at_).map bR ++ [[eI (cQ 0 a),eI (-1)]]:=by simp
 have m3:(gp z a at_ r ahead come behind).cls.map bR=(z.cls.take at_ ++ [(⟨cQ 0 a,-1⟩:dN)]).map bR ++ (z.cls.drop at_).map bR:=by simp [gp]
 have m4:(((lH z r).take ahead ++ come).map fun n=>[eI n])=(((lH z r).take ahead).map fun n=>[eI n]) ++ come.map fun n=>[eI n]:=by simp
 have m5:((gp z a at_ r ahead come behind).gaps.map fun n=>[eI n])=(((lH z r).take ahead ++ come).map fun n=>[eI n]) ++ ((lH z r).drop behind).map fun n=>[eI n]:=by simp [gp]
 refine cX (fun st=>st=⟨66,[(1,eI a),(2,eI (at_:Int)),(3,eI r),(4,eI (ahead:Int)),(5,sI come),(6,eI (behind:Int)),(7,.op 0 0 0),(14,.op 1 0 0)],[(0,some (.box 60 (bW z))),(1,some (.box 60 [.c (.slice none 0 0),.c (.slice none 0 0)]))],2⟩) (dD ah ?_) ?_
 .repeat' first|refine gq ?_|decide|refine sp ?_ ?_<;>intro _
  exact cd wC rfl
 rintro _ rfl;refine cX (fun st=>st=⟨66,[(1,eI a),(2,eI (at_:Int)),(3,eI r),(4,eI (ahead:Int)),(5,sI come),(6,eI (behind:Int)),(7,.op 0 0 0),(14,.op 1 0 0),(15,.op 2 0 0)],[(0,some (.box 60 (bW z))),(1,some (.box 60 [.c (.slice none 0 0),.c (.slice none 0 0)])),(2,some (.box 60 [.osl 3,.osl 4])),(3,some (.row 128 2 ([]))),(4,some (.row 3 1 ([])))],5⟩) (dD ah ?_) ?_
 .repeat' first|refine gq ?_|decide|refine sp ?_ ?_<;>intro _
  exact cd ((cH 2 0 128 2 (t:=60) (cells:=[.c (.slice none 0 0),.c (.slice none 0 0)]) (by simp [aa.gc]) rfl).trans ((cH 2 1 3 1 (t:=60) (cells:=[.osl 3,.c (.slice none 0 0)]) (by simp [aa.gc]) rfl).trans (wE (kf @Ms @Mt)))) rfl
 rintro _ rfl;refine cX (fun st=>st=⟨66,[(1,eI a),(2,eI (at_:Int)),(3,eI r),(4,eI (ahead:Int)),(5,sI come),(6,eI (behind:Int)),(7,.op 0 0 0),(14,.op 1 0 0),(15,.op 2 0 0)],[(0,some (.box 60 (bW z))),(1,some (.box 60 [.c (.slice none 0 0),.c (.slice none 0 0)])),(2,some (.box 60 [.osl 3,.osl 4])),(3,some (.row 128 2 ((z.cls.take at_).map bR))),(4,some (.row 3 1 ([])))],5⟩) (dD ah ?_) ?_
 .repeat' first|refine go ?_|decide|refine sp ?_ ?_<;>intro _
  refine aB [2,3] [0,2,3,4,5] (.exec 1 (.exec 6 (.take 7 (.exec 8 .done)))) (by kernel_rfl) (by simp [aa.gc]) ?_
  repeat' first|refine gf (kf @hat f0) ?_|decide|refine sp ?_ ?_<;>intro _|(with_reducible apply And.intro)
  all_goals first
   | rfl
   | omega
   | exact cd (wR [0,1,2,5,4]) rfl
 rintro _ rfl;refine cX (fun st=>st=⟨66,[(1,eI a),(2,eI (at_:Int)),(3,eI r),(4,eI (ahead:Int)),(5,sI come),(6,eI (behind:Int)),(7,.op 0 0 0),(14,.op 1 0 0),(15,.op 2 0 0)],[(0,some (.box 60 (bW z))),(1,some (.box 60 [.c (.slice none 0 0),.c (.slice none 0 0)])),(2,some (.box 60 [.osl 3,.osl 4])),(3,some (.row 128 2 ((z.cls.take at_ ++ [(⟨cQ 0 a,-1⟩:dN)]).map bR))),(4,some (.row 3 1 ([])))],5⟩) (dD ah ?_) ?_
 .repeat' first|refine go ?_|decide|refine sp ?_ ?_<;>intro _
  refine aB [2,3] [0,2] (.two 1 (.exec 3 (.take 4 (.exec 5 (.exec 6 (.take 7 (.exec 8 .done)))))) 3 (.take 4 (.two 1 (.exec 5 (.exec 6 (.take 7 (.exec 8 .done)))) 5 (.exec 1 (.exec 6 (.take 7 (.exec 8 .done))))))) (by kernel_rfl) (by simp [aa.gc]) ?_
  repeat' first|refine gq ?_|decide|refine sp ?_ ?_<;>intro _|refine cA hP ?_|(with_reducible apply And.intro)
  all_goals first
   | rfl
   | omega
   | exact cd (wS [0,1,2,6,4] m2) rfl
 rintro _ rfl;refine cX (fun st=>st=⟨66,[(1,eI a),(2,eI (at_:Int)),(3,eI r),(4,eI (ahead:Int)),(5,sI come),(6,eI (behind:Int)),(7,.op 0 0 0),(14,.op 1 0 0),(15,.op 2 0 0)],[(0,some (.box 60 (bW z))),(1,some (.box 60 [.c (.slice none 0 0),.c (.slice none 0 0)])),(2,some (.box 60 [.osl 3,.osl 4])),(3,some (.row 128 2 ((gp z a at_ r ahead come behind).cls.map bR))),(4,some (.row 3 1 ([])))],5⟩) (dD ah ?_) ?_
 .repeat' first|refine go ?_|decide|refine sp ?_ ?_<;>intro _
  refine aB [2,3] [0,2,3,4,5] (.exec 1 (.exec 6 (.take 7 (.exec 8 .done)))) (by kernel_rfl) (by simp [aa.gc]) ?_
  repeat' first|refine gf (kf @hat f1) ?_|decide|refine sp ?_ ?_<;>intro _|(with_reducible apply And.intro)
  all_goals first
   | rfl
   | omega
   | exact cd (wS [0,1,2,5,4] m3) rfl
 rintro _ rfl;refine cX (fun st=>st=⟨66,[(1,eI a),(2,eI (at_:Int)),(3,eI r),(4,eI (ahead:Int)),(5,sI come),(6,eI (behind:Int)),(7,.op 0 0 0),(14,.op 1 0 0),(15,.op 2 0 0),(16,sI (lH z r))],[(0,some (.box 60 (bW z))),(1,some (.box 60 [.c (.slice none 0 0),.c (.slice none 0 0)])),(2,some (.box 60 [.osl 3,.osl 4])),(3,some (.row 128 2 ((gp z a at_ r ahead come behind).cls.map bR))),(4,some (.row 3 1 ([])))],5⟩) (dD ah ?_) ?_
 .repeat' first|refine gf er ?_|decide|refine sp ?_ ?_<;>intro _|refine cA hClT ?_|fail
  all_goals exact cd wC rfl
 rintro _ rfl;refine cX (fun st=>st=⟨66,[(1,eI a),(2,eI (at_:Int)),(3,eI r),(4,eI (ahead:Int)),(5,sI come),(6,eI (behind:Int)),(7,.op 0 0 0),(14,.op 1 0 0),(15,.op 2 0 0),(16,sI (lH z r))],[(0,some (.box 60 (bW z))),(1,some (.box 60 [.c (.slice none 0 0),.c (.slice none 0 0)])),(2,some (.box 60 [.osl 3,.osl 4])),(3,some (.row 128 2 ((gp z a at_ r ahead come behind).cls.map bR))),(4,some (.row 3 1 (((lH z r).take ahead).map fun n=>[eI n])))],5⟩) (dD ah ?_) ?_
 .repeat' first|refine go ?_|decide|refine sp ?_ ?_<;>intro _
  refine aB [2,4] [0,2,3,4] (.exec 1 (.exec 5 (.take 6 (.exec 7 .done)))) (by kernel_rfl) (by simp [aa.gc]) ?_
  repeat' first|refine gf (kf @hah (kf @hgl f2)) ?_|decide|refine sp ?_ ?_<;>intro _|(with_reducible apply And.intro)
  all_goals first
   | rfl
   | omega
   | exact cd (wR [0,1,2,3,5]) rfl
 rintro _ rfl;refine cX (fun st=>st=⟨66,[(1,eI a),(2,eI (at_:Int)),(3,eI r),(4,eI (ahead:Int)),(5,sI come),(6,eI (behind:Int)),(7,.op 0 0 0),(14,.op 1 0 0),(15,.op 2 0 0),(16,sI (lH z r))],[(0,some (.box 60 (bW z))),(1,some (.box 60 [.c (.slice none 0 0),.c (.slice none 0 0)])),(2,some (.box 60 [.osl 3,.osl 4])),(3,some (.row 128 2 ((gp z a at_ r ahead come behind).cls.map bR))),(4,some (.row 3 1 (((lH z r).take ahead ++ come).map fun n=>[eI n])))],5⟩) (dD ah ?_) ?_
 .repeat' first|refine gq ?_|decide|refine sp ?_ ?_<;>intro _|(with_reducible apply And.intro)
  all_goals first
   | rfl
   | omega
   | exact cd (wS [0,1,2,3,5] m4) rfl
 rintro _ rfl;refine cX (fun st=>st=⟨66,[(1,eI a),(2,eI (at_:Int)),(3,eI r),(4,eI (ahead:Int)),(5,sI come),(6,eI (behind:Int)),(7,.op 0 0 0),(14,.op 1 0 0),(15,.op 2 0 0),(16,sI (lH z r))],[(0,some (.box 60 (bW z))),(1,some (.box 60 [.c (.slice none 0 0),.c (.slice none 0 0)])),(2,some (.box 60 [.osl 3,.osl 4])),(3,some (.row 128 2 ((gp z a at_ r ahead come behind).cls.map bR))),(4,some (.row 3 1 ((gp z a at_ r ahead come behind).gaps.map fun n=>[eI n])))],5⟩) (dD ah ?_) ?_
 .repeat' first|refine go ?_|decide|refine sp ?_ ?_<;>intro _
  refine aB [2,4] [0,2,3,4] (.exec 1 (.exec 5 (.take 6 (.exec 7 .done)))) (by kernel_rfl) (by simp [aa.gc]) ?_
  repeat' first|refine gf (kf @hbe (kf @hgl f3)) ?_|decide|refine sp ?_ ?_<;>intro _|(with_reducible apply And.intro)
  all_goals first
   | rfl
   | omega
   | exact cd (wS [0,1,2,3,5] m5) rfl
 rintro _ rfl;refine dD ah ?_
 repeat' first|refine gq ?_|decide|refine sp ?_ ?_<;>intro _
 all_goals exact ⟨[3,4],by decide,rfl,by simp [b9,k6,aa.gc]⟩
theorem jz (z:Zn):(k6 z).r.plain /\ (k6 z).tab.plain:=by
 refine ⟨⟨trivial,trivial,trivial⟩,?_⟩;simp only [k6];refine ⟨fun row hr av ha=>?_,fun row hr av ha=>?_,trivial⟩
 .obtain ⟨x,_,rfl⟩:=K8.1 hr;simp at ha;rcases ha with rfl|rfl<;>trivial
 .obtain ⟨x,_,rfl⟩:=K8.1 hr;simp at ha;subst ha;trivial
def vp (z:Zn) (a:Int) (i:Nat) (r:Int):Zn:=⟨z.cls.set i ⟨cQ (z.cls.getD i default).attrs a,(z.cls.getD i default).const⟩,lH z r⟩
theorem H7 (z:Zn) (a:Int) (i:Nat) (r:Int) {N:Nat} (hN:N<=1000000) (hz:kV N z) (ha:0<=a /\ a<31) (hi:i<z.cls.length) (hr:-1000000<=r /\ r<=1000000):aw Tryz.prog 153 [.agg (bW z),eI a,eI (i:Int),eI r] ⟨.agg (bW (vp z a i r)),[],0⟩:=by
 refine aw.still (R:=k6 (vp z a i r)) [0,1] ?_ (by simp [k6,ce.frzs,ce.frz,aa.gc,AV.frz,AV.frzL,bK,ar.frz]) (by simp [AV.lt,AV.ltL]);refine ab ah Tryz.func153 rfl (by decide) Tryz.ntmps153 Tryz.results153 rfl (xL _) ?_;have er:IntKind.i64.wrap (r - 1)=r - 1:=ay (by omega) (by omega);have hcl:=hz.cl;have hga:=hz.ga;obtain ⟨x,hx⟩:∃ x,z.cls[i]=x:=⟨_,rfl⟩;have hxg:z.cls.getD i default=x:=by rw [KP,KN hi,<- hx];rfl
 have hrx:(z.cls.map bR)[i]?.getD []=bR x:=by simp [hi,hx]
 have hxo:aq x.attrs:=hz.at_ x (hx ▸ KQ hi);have hP:=pz x.attrs a true hxo ha.1 ha.2;rw [K5 rfl] at hP;have hCl:=qD z.gaps (r - 1) (by omega);have hgm:(z.gaps.map fun n=>[eI (bL n (r - 1))])=(vp z a i r).gaps.map fun n=>[eI n]:=by simp [vp,lH]
 rw [hgm] at hCl;have hset:(z.cls.map bR).set i [eI (cQ x.attrs a),eI x.const]=(vp z a i r).cls.map bR:=by rw [vp,hxg,MW]
 repeat' first|refine ge (kf @hrx hi) ?_|decide|refine sp ?_ ?_<;>intro _
 refine ⟨rfl,⟨by omega,by omega⟩,?_⟩;refine aA hP ?_
 repeat' first|refine ge (kf @hrx (kf hi (kf @hset er))) ?_|decide|refine sp ?_ ?_<;>intro _
 refine iU hCl (.inr eJ) ?_
 repeat' first|refine go ?_|decide|refine sp ?_ ?_<;>intro _
 exact ⟨[3,4],by decide,rfl,by simp [b9,k6,aa.gc]⟩
def wA (st:ak) (j:Nat):Nat:=match st.get j with
 | .c (.int _ k)=>(k+1).toNat
 | _=>0
def ng (z:Zn) (a r:Int) (M k:Nat):List Zn:=(List.range k).map fun (j:Nat)=>gp z a 0 r 0 [((M - j:Nat):Int)] 0
def jK (z:Zn) (a r:Int) (i j:Nat):List Zn:=vp z a i r :: ((n7 (z.gaps.getD i 0) r).take j).map fun p=>gp z a (i+1) r i [p.1,p.2] (i+1)
def gv (z:Zn) (a r:Int):Nat -> List Zn
 | 0=>[]
 | i+1=>gv z a r i ++ (if i+1<z.cls.length then jK z a r i (n7 (z.gaps.getD i 0) r).length else [vp z a i r])
def nX (z:Zn) (a r:Int) (k:Nat):List Zn:=(List.range k).map fun (j:Nat)=>gp z a z.cls.length r (z.cls.length - 1) [(j:Int)] (z.cls.length - 1)
def gw (z:Zn) (a r:Int):List Zn:=
 if r<1 \/ a<0 \/ 30<a \/ (z.gaps.length:Int) ≠ max ((z.cls.length:Int) - 1) 0 then []
 else if z.cls.any (fun x=>aW x.attrs a)=true then []
 else if z.cls.length=0 then [gp z a 0 r 0 [] 0]
 else ng z a r (cj (r - 1)).toNat ((cj (r - 1)).toNat+1) ++ gv z a r z.cls.length ++ nX z a r ((cj (r - 1)).toNat+1)
theorem pF (z:Zn) (a r:Int) (M k:Nat):(ng z a r M k).length=k:=by simp [ng]
theorem tu (z:Zn) (a r:Int) (k:Nat):(nX z a r k).length=k:=by simp [nX]
theorem pb (z:Zn) (a r:Int):∀ i,(gv z a r i).length<=i * (1+((cj (r - 1)).toNat+1) * ((cj (r - 1)).toNat+1))
 | 0=>by simp [gv]
 | i+1=>by
  have h1:=pb z a r i;have h2:=tA (z.gaps.getD i 0) r;rw [gv,f4,MM];split
  .simp only [jK,KU,Lg,K7];omega
  .simp only [Lo];omega
theorem G0 {r:Int} (h:r<=4):(cj (r - 1)).toNat<=7:=by
 have h0:min (r - 1).toNat 20<=3:=by omega
 have h1:(2:Nat) ^ (min (r - 1).toNat 20)<=2 ^ 3:=Lu (by omega) h0;have h2:((2 ^ (min (r - 1).toNat 20):Nat):Int)=(2:Int) ^ (min (r - 1).toNat 20):=by simp
 unfold cj;omega
theorem Ff (z:Zn) (a r:Int) {N:Nat} (hN:N<=1000) (hz:kV N z) (hr:-100000<=r /\ r<=4):aw Tryz.prog 123 [.agg (bW z),eI a,eI r] ⟨.sl 2 ((gw z a r).map bW),[],0⟩:=by
 refine g8 60 ?_;refine ba ah Tryz.func123 rfl (by decide) Tryz.ntmps123 Tryz.results123 rfl ?_;have hcl:=hz.cl;have hga:=hz.ga;have er:IntKind.i64.wrap (r - 1)=r - 1:=ay (by omega) (by omega);have ew:IntKind.i64.wrap ((z.cls.length:Int) - 1)=(z.cls.length:Int) - 1:=ay (by omega) (by omega);by_cases hbad:r<1 \/ a<0 \/ 30<a \/ (z.gaps.length:Int) ≠ max ((z.cls.length:Int) - 1) 0
 .have hP:gw z a r=[]:=K5 hbad;rw [hP];by_cases h1:r<1
  .have d1:decide (r<1)=true:=K4 h1
   repeat' first|refine gf (kf d1 ew) ?_|decide|refine sp ?_ ?_<;>intro _
   all_goals exact bZ (gZ rfl)
  .have d1:decide (r<1)=false:=K0 h1;by_cases h2:a<0
   .have d2:decide (a<0)=true:=K4 h2
    repeat' first|refine gf (kf d1 (kf d2 ew)) ?_|decide|refine sp ?_ ?_<;>intro _
    all_goals exact bZ (gZ rfl)
   .have d2:decide (a<0)=false:=K0 h2;by_cases h3:30<a
    .have d3:decide (30<a)=true:=K4 h3
     repeat' first|refine gf (kf d1 (kf d2 (kf d3 ew))) ?_|decide|refine sp ?_ ?_<;>intro _
     all_goals exact bZ (gZ rfl)
    .have d3:decide (30<a)=false:=K0 h3;have d4:((z.gaps.length:Int) != max ((z.cls.length:Int) - 1) 0)=true:=bne_iff_ne.2 (by omega)
     repeat' first|refine gf (kf d1 (kf d2 (kf d3 (kf d4 ew)))) ?_|decide|refine sp ?_ ?_<;>intro _
     all_goals exact bZ (gZ rfl)
 .have d1:decide (r<1)=false:=K0 (by omega);have d2:decide (a<0)=false:=K0 (by omega);have d3:decide (30<a)=false:=K0 (by omega);have d4:((z.gaps.length:Int) != max ((z.cls.length:Int) - 1) 0)=false:=bne_eq_false_iff_eq.2 (by omega);have hP0:gw z a r=if z.cls.any (fun x=>aW x.attrs a)=true then [] else if z.cls.length=0 then [gp z a 0 r 0 [] 0] else ng z a r (cj (r - 1)).toNat ((cj (r - 1)).toNat+1) ++ gv z a r z.cls.length ++ nX z a r ((cj (r - 1)).toNat+1):=KY hbad
  repeat' first|refine gf (kf d1 (kf d2 (kf d3 (kf d4 ew)))) ?_|decide|refine sp ?_ ?_<;>intro _
  refine af (fun st=>∃ i:Nat,(i<=z.cls.length /\ (z.cls.take i).any (fun x=>aW x.attrs a)=false) /\ st=⟨148,[(1,eI a),(2,eI r),(3,.op 0 0 0),(7,eI (z.cls.length:Int)),(8,eI (i:Int))],[(0,some (.box 60 (bW z)))],1⟩) (fun st=>z.cls.length - ap st 8) ⟨_,wC,0,⟨KR _,rfl⟩,rfl⟩ ?_;rintro _ ⟨i,⟨hi,hany⟩,rfl⟩;by_cases hlt:i<z.cls.length
  .obtain ⟨x,hx⟩:∃ x,z.cls[i]=x:=⟨_,rfl⟩;have hrx:(z.cls.map bR)[i]?.getD []=bR x:=(by simp [hlt,hx]);have hxo:aq x.attrs:=hz.at_ x (hx ▸ KQ hlt);have hH:=dk x.attrs a hxo;have hn:(z.cls.take (i+1)).any (fun x=>aW x.attrs a)=aW x.attrs a:=by rw [KX hlt,List.any_append,hany,hx];simp
   cases hb:aW x.attrs a with
   | true=>
    have hall:z.cls.any (fun x=>aW x.attrs a)=true:=List.any_eq_true.2 ⟨x,hx ▸ KQ hlt,hb⟩;rw [hP0,K5 hall];rw [hb] at hH
    repeat' first|refine gf (kf @hrx @hlt) ?_|decide|refine sp ?_ ?_<;>intro _|refine cA hH ?_|fail
    all_goals exact bZ (gZ rfl)
   | false=>
    rw [hb] at hH hn
    repeat' first|refine gf (kf @hrx @hlt) ?_|decide|refine sp ?_ ?_<;>intro _|refine cA hH ?_|fail
    all_goals exact rI wC ⟨i+1,⟨by omega,hn⟩,rfl⟩
  .obtain rfl:i=z.cls.length:=by omega
   rw [K7] at hany;rw [hP0,KY (by rw [hany];simp)];by_cases h0:z.cls.length=0
   .have b0:((z.cls.length:Int) == 0)=true:=MC.2 (by omega);have hO:=(oy z a 0 r 0 [] 0 (by omega) hz ⟨by omega,by omega⟩ (KR _) (KR _) (KR _) (by simp) ⟨by omega,by omega⟩).fits (args:=[.agg (bW z),eI a,eI 0,eI r,eI 0,.c (.slice none 0 0),eI 0]) ⟨.one (.refl _),.one (.refl _),.one (.refl _),.one (.refl _),.one (.refl _),.one (.nil 1),.one (.refl _),trivial⟩;rw [K5 h0]
    repeat' first|refine gf (kf @hlt b0) ?_|decide|refine sp ?_ ?_<;>intro _
    refine pf hO (.inr (jz _)) ?_
    repeat' first|refine go ?_|simp only [k6,dp,eT,fQ,ar.shift]|decide|refine sp ?_ ?_<;>intro _
    all_goals exact ⟨rfl,xv rfl jm⟩
   .have b0:((z.cls.length:Int) == 0)=false:=LJ.2 (by omega);rw [KY h0];have hCap:=qQ (r - 1);have h4:=G0 hr.2;have hp1:=fp (r - 1);obtain ⟨M,hM⟩:∃ M:Nat,cj (r - 1)=(M:Int):=⟨(cj (r - 1)).toNat,by omega⟩;have hMn:(cj (r - 1)).toNat=M:=(by omega);have hBl:=pb z a r;rw [hMn] at h4 hBl ⊢;rw [hM] at hCap;have hgn:z.gaps.length=z.cls.length - 1:=(by omega);have hro:-1000000<=r /\ r<=1000000:=⟨by omega,by omega⟩;have hao:0<=a /\ a<31:=⟨by omega,by omega⟩
    have hBb:∀ i,i<=1000 -> (gv z a r i).length<=65000:=fun i hi=>by
     have h1:=hBl i;have h2:(M+1) * (M+1)<=8 * 8:=MH (by omega) (by omega);have h3:i * (1+(M+1) * (M+1))<=1000 * 65:=MH hi (by omega);omega
    repeat' first|refine gf (kf @hlt (kf b0 er)) ?_|decide|refine sp ?_ ?_<;>intro _|refine cA hCap ?_|fail
    refine af (fun st=>∃ k:Nat,k<=M+1 /\ st=⟨148,[(1,eI a),(2,eI r),(3,.op 0 0 0),(7,eI (z.cls.length:Int)),(9,.osl 1),(10,eI (M:Int)),(11,eI ((M:Int) - (k:Int)))],[(0,some (.box 60 (bW z))),(1,some (.row 60 2 ((ng z a r M k).map bW)))],2⟩) (fun st=>wA st 11) ⟨_,((bf 9 60 2 (by simp only [iu,ak.get,bl,ak.put,↓reduceIte,reduceCtorEq,Nat.reduceLT,Nat.reduceEqDiff,Nat.reduceAdd,Nat.reduceLeDiff,eq_self,implies_true,ng,L7,Lq,Int.sub_zero,Int.natCast_zero])).trans (wS [0,1] (kf @ng.eq_1 (kf @L7 (kf @Int.sub_zero @Int.natCast_zero))))),0,KR _,rfl⟩ ?_;rintro _ ⟨k,hk,rfl⟩;by_cases hkM:k<=M
    .have he:(M:Int) - (k:Int)=((M - k:Nat):Int):=(by omega);have e1:IntKind.i64.wrap (((M - k:Nat):Int) - 1)=(M:Int) - ((k+1:Nat):Int):=by rw [ay (by omega) (by omega)];omega
     have hO:=oy z a 0 r 0 [((M - k:Nat):Int)] 0 (by omega) hz hao (KR _) (KR _) (KR _) (by simp) hro;have et:(ng z a r M (k+1)).map bW=(ng z a r M k).map bW ++ [bW (gp z a 0 r 0 [((M - k:Nat):Int)] 0)]:=(by simp [ng,LX]);have hal:=pF z a r M k
     have m1:∀ (e:List (Nat × AV)) (t:aa) (nx:Nat),wA ⟨148,(1,eI a) :: (2,eI r) :: (3,.op 0 0 0) :: (7,eI (z.cls.length:Int)) :: (9,.osl 1) :: (10,eI (M:Int)) :: (11,eI ((M:Int) - ((k+1:Nat):Int))) :: e,t,nx⟩ 11=M - k:=fun e t nx=>by
      show ((M:Int) - ((k+1:Nat):Int)+1).toNat=M - k;omega
     have m2:∀ (e:List (Nat × AV)) (t:aa) (nx:Nat),wA ⟨148,(1,eI a) :: (2,eI r) :: (3,.op 0 0 0) :: (7,eI (z.cls.length:Int)) :: (9,.osl 1) :: (10,eI (M:Int)) :: (11,eI ((M - k:Nat):Int)) :: e,t,nx⟩ 11=M - k+1:=fun e t nx=>by
      show (((M - k:Nat):Int)+1).toNat=M - k+1;omega
     rw [he];obtain ⟨O,hOe⟩:∃ O,O=ng z a r M k:=⟨_,rfl⟩;rw [<- hOe] at et hal ⊢
     repeat' first|refine go ?_|decide|refine sp ?_ ?_<;>intro _
     refine ⟨rfl,?_⟩;refine pf hO (.inr (jz _)) ?_
     repeat' first|refine gq ?_|simp only [k6,dp,eT,fQ,ar.shift]|decide|refine sp ?_ ?_<;>intro _|(with_reducible apply And.intro)
     all_goals first
      | rfl
      | omega
      | exact fZ (wS [0,6] (kf et (kf @hOe e1))) ⟨k+1,by omega,rfl⟩ (by rw [m1,m2];omega)
    .obtain rfl:k=M+1:=by omega
     have e0:decide ((0:Int)<=(M:Int) - ((M+1:Nat):Int))=false:=K0 (by omega);have hal:=pF z a r M (M+1);obtain ⟨O,hOe⟩:∃ O,O=ng z a r M (M+1):=⟨_,rfl⟩;rw [<- hOe] at hal ⊢
     repeat' first|refine gf e0 ?_|decide|refine sp ?_ ?_<;>intro _
     refine af (fun st=>∃ i:Nat,i<=z.cls.length /\ st=⟨148,[(1,eI a),(2,eI r),(3,.op 0 0 0),(7,eI (z.cls.length:Int)),(9,.osl 1),(10,eI (M:Int)),(12,eI (i:Int))],[(0,some (.box 60 (bW z))),(1,some (.row 60 2 ((O ++ gv z a r i).map bW)))],2⟩) (fun st=>z.cls.length - ap st 12) ⟨_,(wE (kf @gv.eq_1 @gv.eq_2)),0,KR _,rfl⟩ ?_;rintro _ ⟨i,hi,rfl⟩;have hPl:=hBb i (by omega);obtain ⟨P,hPe⟩:∃ P,P=O ++ gv z a r i:=⟨_,rfl⟩;have hPl2:P.length<=66000:=by rw [hPe,f4];omega
     rw [<- hPe];by_cases hli:i<z.cls.length
     .have hIn:=H7 z a i r (by omega) hz hao hli hro;have e2:IntKind.i64.wrap ((z.cls.length:Int) - 1)=((z.cls.length - 1:Nat):Int):=by rw [ay (by omega) (by omega)];omega
      have ei:IntKind.i64.wrap ((i:Int)+1)=((i+1:Nat):Int):=by rw [ay (by omega) (by omega)];omega
      by_cases hl2:i+1<z.cls.length
      .have hl3:i<z.cls.length - 1:=(by omega);have hig:i<z.gaps.length:=(by omega);obtain ⟨g,hg⟩:∃ g,g=z.gaps[i]:=⟨_,rfl⟩;have hrg:(z.gaps.map fun n=>[eI n])[i]?.getD []=[eI g]:=by rw [hg];simp [hig]
       have hgd:z.gaps.getD i 0=g:=by rw [hg];simp [List.getD,hig]
       have hS:=CA g r hro;have hSl:=tA g r;rw [hMn] at hSl;have hSl2:(n7 g r).length<=64:=Lf hSl (MH (show M+1<=8 by omega) (show M+1<=8 by omega));have hB1:∀ j,jK z a r i j=vp z a i r :: ((n7 g r).take j).map fun p=>gp z a (i+1) r i [p.1,p.2] (i+1):=fun j=>by rw [jK,hgd]
       have hBs:gv z a r (i+1)=gv z a r i ++ jK z a r i (n7 g r).length:=(by rw [gv,K5 hl2,hgd]);obtain ⟨S,hSe⟩:∃ S,S=n7 g r:=⟨_,rfl⟩;rw [<- hSe] at hS hSl2 hB1 hBs;have et0:(P ++ jK z a r i 0).map bW=P.map bW ++ [bW (vp z a i r)]:=by rw [hB1];simp
       repeat' first|refine gf (kf @hli (kf hl2 (kf hl3 (kf e2 (kf @hrg @hig))))) ?_|decide|refine sp ?_ ?_<;>intro _|refine cA hIn ?_|refine cA hS ?_|(with_reducible apply And.intro)
       all_goals first
        | rfl
        | omega
        | skip
       refine af (fun st=>∃ j:Nat,j<=S.length /\ st=⟨148,[(1,eI a),(2,eI r),(3,.op 0 0 0),(7,eI (z.cls.length:Int)),(9,.osl 1),(10,eI (M:Int)),(12,eI (i:Int)),(13,.sl 2 (S.map eP)),(14,eI (j:Int))],[(0,some (.box 60 (bW z))),(1,some (.row 60 2 ((P ++ jK z a r i j).map bW)))],2⟩) (fun st=>S.length - ap st 14) ⟨_,(wS [0,3] et0),0,KR _,rfl⟩ ?_;rintro _ ⟨j,hj,rfl⟩;have hQl:(P ++ jK z a r i j).length<=66100:=by rw [hB1,f4,KU,Lg,K6];omega
       by_cases hlj:j<S.length
       .obtain ⟨p,hp⟩:∃ p,p=S[j]:=⟨_,rfl⟩;have hrp:(S.map eP)[j]?.getD []=eP p:=by rw [hp];simp [hlj]
        have q0:List.drop (Int.toNat 0 * 1) (eP p)=[eI p.1,eI p.2]:=rfl;have q1:List.drop (Int.toNat 1 * 1) (eP p)=[eI p.2]:=rfl;have hO:=oy z a (i+1) r i [p.1,p.2] (i+1) (by omega) hz hao (by omega) (by omega) (by omega) (by simp) hro
        have et:(P ++ jK z a r i (j+1)).map bW=(P ++ jK z a r i j).map bW ++ [bW (gp z a (i+1) r i [p.1,p.2] (i+1))]:=by
         rw [hB1,hB1,KX hlj,<- hp];simp
        obtain ⟨Q,hQ⟩:∃ Q,Q=P ++ jK z a r i j:=⟨_,rfl⟩;rw [<- hQ] at et hQl ⊢
        repeat' first|refine ge @hlj ?_|decide|refine sp ?_ ?_<;>intro _
        refine aB [1] [0,1,2,3,4,5,6,7,8,9,10,11,12,13,14,15,16,18,19] (.exec 17 (.exec 20 (.exec 21 (.exec 22 (.exec 23 .done))))) (by kernel_rfl) (by simp [aa.gc]) ?_
        repeat' first|refine ge (kf @hlj (kf @hrp (kf q0 (kf q1 (kf Kj (kf Kq (kf KE ei))))))) ?_|decide|refine sp ?_ ?_<;>intro _
        refine ⟨rfl,?_⟩;refine pf hO (.inr (jz _)) ?_
        repeat' first|refine gq ?_|simp only [k6,dp,eT,fQ,ar.shift]|decide|refine sp ?_ ?_<;>intro _|(with_reducible apply And.intro)
        all_goals first
         | rfl
         | omega
         | exact rI (wS [0,6] (kf et hQ)) ⟨j+1,by omega,rfl⟩
       .obtain rfl:j=S.length:=by omega
        have hn:P ++ jK z a r i S.length=O ++ gv z a r (i+1):=(by rw [hBs,hPe,KZ]);rw [hn]
        repeat' first|refine gf @hlj ?_|decide|refine sp ?_ ?_<;>intro _
        all_goals exact rI wC ⟨i+1,by omega,rfl⟩
      .have hl3:¬ i<z.cls.length - 1:=(by omega);have hBs:gv z a r (i+1)=gv z a r i ++ [vp z a i r]:=(by rw [gv,KY hl2]);have et:(O ++ gv z a r (i+1)).map bW=P.map bW ++ [bW (vp z a i r)]:=by rw [hBs,hPe];simp
       repeat' first|refine gf (kf @hli (kf hl2 (kf hl3 e2))) ?_|decide|refine sp ?_ ?_<;>intro _|refine cA hIn ?_|(with_reducible apply And.intro)
       all_goals first
        | rfl
        | omega
        | exact rI (wS [0,3] et) ⟨i+1,by omega,rfl⟩
     .obtain rfl:i=z.cls.length:=by omega
      repeat' first|refine gf @hli ?_|decide|refine sp ?_ ?_<;>intro _
      refine af (fun st=>∃ j:Nat,j<=M+1 /\ st=⟨148,[(1,eI a),(2,eI r),(3,.op 0 0 0),(7,eI (z.cls.length:Int)),(9,.osl 1),(10,eI (M:Int)),(15,eI (j:Int))],[(0,some (.box 60 (bW z))),(1,some (.row 60 2 ((P ++ nX z a r j).map bW)))],2⟩) (fun st=>M+1 - ap st 15) ⟨_,(wE (kf @nX.eq_1 @L7)),0,KR _,rfl⟩ ?_;rintro _ ⟨j,hj,rfl⟩;have hCl:=tu z a r j;by_cases hlj:j<=M
      .have hO:=oy z a z.cls.length r (z.cls.length - 1) [(j:Int)] (z.cls.length - 1) (by omega) hz hao (KW _) (by omega) (by omega) (by simp) hro;have e2:IntKind.i64.wrap ((z.cls.length:Int) - 1)=((z.cls.length - 1:Nat):Int):=by rw [ay (by omega) (by omega)];omega
       have et:(P ++ nX z a r (j+1)).map bW=(P ++ nX z a r j).map bW ++ [bW (gp z a z.cls.length r (z.cls.length - 1) [(j:Int)] (z.cls.length - 1))]:=(by simp [nX,LX]);have hQl:(P ++ nX z a r j).length<=66100:=by rw [f4];omega
       obtain ⟨Q,hQ⟩:∃ Q,Q=P ++ nX z a r j:=⟨_,rfl⟩;rw [<- hQ] at et hQl ⊢
       repeat' first|refine ge (kf @hlj e2) ?_|decide|refine sp ?_ ?_<;>intro _
       refine ⟨rfl,?_⟩;refine pf hO (.inr (jz _)) ?_
       repeat' first|refine gq ?_|simp only [k6,dp,eT,fQ,ar.shift]|decide|refine sp ?_ ?_<;>intro _|(with_reducible apply And.intro)
       all_goals first
        | rfl
        | omega
        | exact rI (wS [0,6] (kf et hQ)) ⟨j+1,by omega,rfl⟩
      .obtain rfl:j=M+1:=by omega
       rw [hPe]
       repeat' first|refine gf @hlj ?_|decide|refine sp ?_ ?_<;>intro _
       all_goals exact xv rfl jm
end
section
structure Pt where
 n:Int
 a:Int
 c:Int
 t:Int
instance:Inhabited Pt:=⟨⟨0,0,0,0⟩⟩
def KJ (x y:Pt):Bool:=decide (x.n<y.n) || (decide (x.n=y.n) && decide (x.t<=y.t))
def Kz (l:List Pt):List Pt:=l.mergeSort KJ
def Gf (bs:Nat):Nat -> List Pt -> List Pt
 | 0,l=>Kz l
 | f+1,l=>if bs<=l.length then Kz (l.take bs) ++ Gf bs f (l.drop bs) else Kz l
def G (bs:Nat) (l:List Pt):List Pt:=Gf bs l.length l
end
section
end
section
end
section
def Kt (a b:Int):Int:=bits .or .i64 a b
end
section
theorem IU (r:Int):0<=cj r:=by
 have h1:1<=(2:Nat) ^ (min r.toNat 20):=Nat.one_le_two_pow;have h2:((2 ^ (min r.toNat 20):Nat):Int)=(2:Int) ^ (min r.toNat 20):=by simp
 unfold cj;omega
end
end
section
section
theorem JE : (Tryz.prog.fieldsOf 128).toList.map (fun f => (f.name, f.type, f.offset)) = [("Attrs", 3, 0), ("Const", 3, 1)] := by kernel_rfl
theorem GO (op:BinOp) (hop:op=.eql \/ op=.neq) (a b:dN):pD Tryz.prog op 128 (.agg #[.int .i64 a.attrs,.int .i64 a.const]) (.agg #[.int .i64 b.attrs,.int .i64 b.const]) (.bool (if op matches .eql then (a.attrs == b.attrs && a.const == b.const) else !(a.attrs == b.attrs && a.const == b.const))):=by
 have ht:=JE
 obtain ⟨f,g,hfs⟩:∃ f g,(Tryz.prog.fieldsOf 128).toList=[f,g]:=by
  generalize (Tryz.prog.fieldsOf 128).toList=l at ht ⊢
  cases l with
  | nil=>simp at ht
  | cons f l=>cases l with
   | nil=>simp at ht
   | cons g l=>cases l with
    | nil=>exact ⟨f,g,rfl⟩
    | cons h l=>simp at ht
 rw [hfs] at ht;simp only [Mc,Lq,List.cons.injEq,Prod.mk.injEq,and_true] at ht;obtain ⟨⟨h1,h2,h3⟩,h4,h5,h6⟩:=ht;refine qU [(.int .i64 a.attrs,.int .i64 b.attrs),(.int .i64 a.const,.int .i64 b.const)] (by kernel_rfl) (by kernel_rfl) (by kernel_rfl) (by rw [hfs];rfl) (fun k f' p hk hp=>?_) (by simp [ky,pR]) hop;rw [hfs] at hk
 match k,hk,hp with
 | 0,hk,hp=>
  cases hk;cases hp;refine ⟨by rw [h1];decide,?_,by rw [h3];rfl,by rw [h3];rfl⟩;rw [h2]
  kernel_rfl
 | 1,hk,hp=>
  cases hk;cases hp;refine ⟨by rw [h4];decide,?_,by rw [h6];rfl,by rw [h6];rfl⟩;rw [h5]
  kernel_rfl
 | k+2,hk,hp=>simp at hk
instance:DecidableEq dN:=fun a b=>decidable_of_iff (a.attrs=b.attrs /\ a.const=b.const) (by cases a;cases b;simp)
theorem JR (x y:dN):pD Tryz.prog .neq 128 (.agg #[.int .i64 x.attrs,.int .i64 x.const]) (.agg #[.int .i64 y.attrs,.int .i64 y.const]) (.bool (decide (x ≠ y))):=by
 have h:=GO .neq (.inr rfl) x y
 have e:decide (x ≠ y) = !(x.attrs == y.attrs && x.const == y.const):=by
  rw [MB];cases x;cases y;simp
 rw [e];exact h
theorem IV {a b:Zn} (h1:a.cls=b.cls) (h2:a.gaps=b.gaps):a=b:=by
 cases a;cases b;simp at h1 h2;rw [h1,h2]
theorem qO {α:Type} {a b:List α} (hl:a.length=b.length) (h:∀ i (h1:i<a.length) (h2:i<b.length),a[i]=b[i]):a=b:=List.ext_getElem hl h
theorem yd (a b:Zn) (h1:a.cls.length<=1000000) (h2:a.gaps.length<=1000000):cT Tryz.prog 132 [.agg (bW a),.agg (bW b)] fun R=>∃ t,R=val (.bool t) /\ (t=true ↔ a=b):=by
 refine ba ah Tryz.func132 rfl (by decide) Tryz.ntmps132 Tryz.results132 rfl ?_;have no1:a.cls.length ≠ b.cls.length -> ¬ a=b:=fun h e=>h (by rw [e]);have no2:a.gaps.length ≠ b.gaps.length -> ¬ a=b:=fun h e=>h (by rw [e]);by_cases hl1:a.cls.length=b.cls.length
 .have d1:((a.cls.length:Int) != (b.cls.length:Int))=false:=by simp [hl1]
  by_cases hl2:a.gaps.length=b.gaps.length
  .have d2:((a.gaps.length:Int) != (b.gaps.length:Int))=false:=by simp [hl2]
   repeat' first|refine gf (kf d1 d2) ?_|decide|refine sp ?_ ?_<;>intro _
   refine af (fun st=>∃ k:Nat,k<=a.cls.length /\ (∀ i (h1:i<a.cls.length) (h2:i<b.cls.length),i<k -> a.cls[i]=b.cls[i]) /\ st=⟨59,[(2,.op 0 0 0),(3,.op 1 0 0),(5,eI (k:Int))],[(0,some (.box 60 (bW a))),(1,some (.box 60 (bW b)))],2⟩) (fun st=>a.cls.length - ap st 5) ⟨_,wC,0,KR _,fun i _ _ h=>by omega,rfl⟩ ?_;rintro _ ⟨k,hk,hs,rfl⟩;by_cases hlt:k<a.cls.length
   .have hlt2:k<b.cls.length:=(by omega);have hB:=JR a.cls[k] b.cls[k];by_cases hxy:a.cls[k]=b.cls[k]
    .rw [K0 (by simpa using hxy)] at hB;obtain ⟨x,hx⟩:∃ x,a.cls[k]=x:=⟨_,rfl⟩;obtain ⟨y,hy⟩:∃ y,b.cls[k]=y:=⟨_,rfl⟩;rw [hx,hy] at hB
     repeat' first|refine gq ?_|simp only [ae,hlt,hlt2,hx,hy]|decide|refine sp ?_ ?_<;>intro _
     all_goals refine ⟨_,hB,?_⟩
     all_goals (repeat' (first|refine gq ?_|decide|refine sp ?_ ?_<;>intro _))
     all_goals exact fZ wC ⟨k+1,by omega,fun i h1 h2 h3=>(by
      rcases Ld i k with h|h
      .exact hs i h1 h2 h
      .obtain rfl:i=k:=by omega
       exact hxy),rfl⟩ (by simp only [ap,iu,ak.get,bl,ak.put,↓reduceIte,reduceCtorEq,Nat.reduceLT,Nat.reduceEqDiff,Nat.reduceAdd,Nat.reduceLeDiff,eq_self,implies_true];omega)
    .rw [K4 hxy] at hB;have hno:¬ a=b:=fun e=>hxy (by subst e;rfl);obtain ⟨x,hx⟩:∃ x,a.cls[k]=x:=⟨_,rfl⟩;obtain ⟨y,hy⟩:∃ y,b.cls[k]=y:=⟨_,rfl⟩;rw [hx,hy] at hB
     repeat' first|refine gq ?_|simp only [ae,hlt,hlt2,hx,hy]|decide|refine sp ?_ ?_<;>intro _
     all_goals refine ⟨_,hB,?_⟩
     all_goals (repeat' (first|refine gq ?_|decide|refine sp ?_ ?_<;>intro _))
     all_goals exact bZ ⟨false,rfl,by simp;exact hno⟩
   .have hcls:a.cls=b.cls:=qO hl1 fun i h1 h2=>hs i h1 h2 (by omega)
    repeat' first|refine gf @hlt ?_|decide|refine sp ?_ ?_<;>intro _
    refine af (fun st=>∃ k:Nat,k<=a.gaps.length /\ (∀ i (h1:i<a.gaps.length) (h2:i<b.gaps.length),i<k -> a.gaps[i]=b.gaps[i]) /\ st=⟨59,[(2,.op 0 0 0),(3,.op 1 0 0),(6,eI (k:Int))],[(0,some (.box 60 (bW a))),(1,some (.box 60 (bW b)))],2⟩) (fun st=>a.gaps.length - ap st 6) ⟨_,wC,0,KR _,fun i _ _ h=>by omega,rfl⟩ ?_;rintro _ ⟨k,hk,hs2,rfl⟩;by_cases hlt2:k<a.gaps.length
    .have hlt3:k<b.gaps.length:=(by omega);by_cases hxy:a.gaps[k]=b.gaps[k]
     .have d3:(a.gaps[k] != b.gaps[k])=false:=by simpa using hxy
      repeat' first|refine gq ?_|simp only [ae,hlt2,hlt3,d3]|decide|refine sp ?_ ?_<;>intro _
      all_goals exact fZ wC ⟨k+1,by omega,fun i h1 h2 h3=>(by
       rcases Ld i k with h|h
       .exact hs2 i h1 h2 h
       .obtain rfl:i=k:=by omega
        exact hxy),rfl⟩ (by simp only [ap,iu,ak.get,bl,ak.put,↓reduceIte,reduceCtorEq,Nat.reduceLT,Nat.reduceEqDiff,Nat.reduceAdd,Nat.reduceLeDiff,eq_self,implies_true];omega)
     .have d3:(a.gaps[k] != b.gaps[k])=true:=(by simpa using hxy);have hno:¬ a=b:=fun e=>hxy (by subst e;rfl)
      repeat' first|refine gq ?_|simp only [ae,hlt2,hlt3,d3]|decide|refine sp ?_ ?_<;>intro _
      all_goals exact bZ ⟨false,rfl,by simp;exact hno⟩
    .have hgaps:a.gaps=b.gaps:=qO hl2 fun i h1 h2=>hs2 i h1 h2 (by omega)
     repeat' first|refine gf @hlt2 ?_|decide|refine sp ?_ ?_<;>intro _
     all_goals exact bZ ⟨true,rfl,by simp;exact IV hcls hgaps⟩
  .have d2:((a.gaps.length:Int) != (b.gaps.length:Int))=true:=by simp;omega
   repeat' first|refine gf (kf d1 d2) ?_|decide|refine sp ?_ ?_<;>intro _
   exact bZ ⟨false,rfl,by simp;exact no2 hl2⟩
 .have d1:((a.cls.length:Int) != (b.cls.length:Int))=true:=by simp;omega
  repeat' first|refine gf d1 ?_|decide|refine sp ?_ ?_<;>intro _
  exact bZ ⟨false,rfl,by simp;exact no1 hl1⟩
end
section
def Kh (a b:Int):Int:=bits .and .i64 a b
def Av (l:List dN):Int:=l.foldl (fun a x=>Kt a x.attrs) 0
def dV (l:List dN):Nat:=l.countP fun x=>!(x.const == -1)
theorem Al (l:List dN) (x:dN):Av (l ++ [x])=Kt (Av l) x.attrs:=by simp [Av]
theorem pP (l:List dN) (x:dN):dV (l ++ [x])=dV l+(if x.const = -1 then 0 else 1):=by
 unfold dV;rw [List.countP_append];by_cases h:x.const = -1<;>simp [h]
theorem Bw (l:List dN):dV l<=l.length:=List.countP_le_length
def Da (l:List dN) (x:dN):Prop:=0<=x.attrs /\ Kh x.attrs (Av l)=0 /\ ¬ (x.attrs=0 /\ x.const = -1) /\ (x.const = -1 \/ x.const=(dV l:Int))
def oi (l:List dN) (n k:Int):Prop:=(∀ i (h:i<l.length),Da (l.take i) l[i]) /\ Av l=k8 n /\ (dV l:Int)=k
end
section
theorem ki {P:Program} {f:FuncId} {args:List AV} {Q:Prop} (h:cT P f args fun R=>∃ b,R=val (.bool b) /\ (b=true ↔ Q)):∃ t:Bool,(t=true ↔ Q) /\ aw P f args (val (.bool t)):=by
 by_cases hQ:Q
 .exact ⟨true,by simp [hQ],h.mono fun R ⟨b,h1,h2⟩=>by rw [h1,h2.2 hQ]⟩
 .exact ⟨false,by simp [hQ],h.mono fun R ⟨b,h1,h2⟩=>by
   cases b with
   | true=>exact absurd (h2.1 rfl) hQ
   | false=>exact h1⟩
def s7 (z:Zn) (cap:Int):Prop:=(z.gaps.length:Int)=max ((z.cls.length:Int) - 1) 0 /\ ∀ i (h:i<z.gaps.length),0<=z.gaps[i] /\ z.gaps[i]<=cap
def kS (l:List dN) (k:Nat):List Nat:=(List.range k).filter fun i=>decide (0<=(l[i]?.map (·.const)).getD (-1))
theorem kz (l:List dN) {k:Nat} (hk:k<l.length):kS l (k+1)=if 0<=l[k].const then kS l k ++ [k] else kS l k:=by
 unfold kS;rw [LX,List.filter_append];by_cases h:0<=l[k].const
 .rw [K5 h];simp [KN hk,h]
 .rw [KY h];simp [KN hk];omega
def cE (z:Zn) (p q:Nat):List Int:=(z.gaps.take q).drop p
def lU (z:Zn) (p q:Nat) (cap a b:Int):Prop:=
 lx a b ((q:Int) - p - 1+(cE z p q).sum+1)=(q:Int) - p - 1+(cE z p q).sum \/ ((∃ g ∈ cE z p q,g=cap) /\ (q:Int) - p - 1+(cE z p q).sum<lx a b ((q:Int) - p - 1+(cE z p q).sum+1))
theorem BK (cap:Int) (hc:0<=cap):∀ l:List Int,(∀ g ∈ l,0<=g /\ g<=cap) -> 0<=l.sum /\ l.sum<=cap * l.length
 | [],_=>by simp
 | g :: l,h=>by
  have h1:=BK cap hc l fun x hx=>h x (Lz _ hx);have h2:=h g (LD ..);rw [List.sum_cons,KU,Int.natCast_add,Int.mul_add];omega
end
section
deriving instance DecidableEq for dN
deriving instance DecidableEq for Zn
def bM {α:Type} [DecidableEq α] (l:List α):List α:=l.foldl (fun o x=>if x ∈ o then o else o ++ [x]) []
theorem jI {α:Type} [DecidableEq α] {l:List α} {k:Nat} (hk:k<l.length):bM (l.take (k+1))=if l[k] ∈ bM (l.take k) then bM (l.take k) else bM (l.take k) ++ [l[k]]:=by
 unfold bM;rw [KX hk,List.foldl_append];rfl
theorem kG {α:Type} [DecidableEq α] (l:List α):∀ k,k<=l.length -> (bM (l.take k)).length<=k /\ ∀ x ∈ bM (l.take k),x ∈ l
 | 0,_=>by simp [bM]
 | k+1,hk=>by
  obtain ⟨h1,h2⟩:=kG l k (by omega);rw [jI (by omega)];split
  .exact ⟨by omega,h2⟩
  .refine ⟨by rw [f4,Lo];omega,fun x hx=>?_⟩;rcases K2.1 hx with h|h
   .exact h2 x h
   .simp only [K9] at h;rw [h];exact KQ _
theorem gE {α:Type} [DecidableEq α] (l:List α) (x:α):x ∈ bM l ↔ x ∈ l:=by
 constructor
 .intro h;have:=(kG l l.length (KW _)).2 x;rw [K7] at this;exact this h
 .intro h
  have key:∀ k,k<=l.length -> ∀ y ∈ l.take k,y ∈ bM (l.take k):=fun k=>by
   induction k with
   | zero=>intro _ y hy;simp at hy
   | succ k ih=>
    intro hk y hy;rw [jI (by omega)];rw [KX (by omega)] at hy;rcases K2.1 hy with h1|h1
    .have:=ih (by omega) y h1;split
     .exact this
     .exact List.mem_append_left _ this
    .simp only [K9] at h1;subst h1;split
     .assumption
     .simp
  have:=key l.length (KW _) x (by rw [K7];exact h)
  rwa [K7] at this
theorem kn {α:Type} [DecidableEq α] (l:List α):(bM l).length<=l.length:=by
 have:=(kG l l.length (KW _)).1
 rwa [K7] at this
theorem Jc (l:List Zn) (z:Zn) (hll:l.length<=2700000000000) (hl:∀ y ∈ l,y.cls.length<=1000000 /\ y.gaps.length<=1000000):aw Tryz.prog 156 [.sl 2 (l.map bW),.agg (bW z)] (val (.bool (decide (z ∈ l)))):=by
 refine ab ah Tryz.func156 rfl (by decide) Tryz.ntmps156 Tryz.results156 rfl (aU _) ?_
 repeat' first|refine go ?_|decide|refine sp ?_ ?_<;>intro _
 refine af (fun st=>∃ k:Nat,k<=l.length /\ z ∉ l.take k /\ st=⟨18,[(0,.sl 2 (l.map bW)),(3,.op 0 0 0),(5,eI (k:Int))],[(0,some (.box 60 (bW z)))],1⟩) (fun st=>l.length - ap st 5) ⟨_,wC,0,KR _,by simp,rfl⟩ ?_;rintro _ ⟨k,hk,hI,rfl⟩;by_cases hlt:k<l.length
 .obtain ⟨x,hx⟩:∃ x,x=l[k]:=⟨_,rfl⟩;have hrow:(l.map bW)[k]?.getD []=bW x:=by rw [hx];simp [hlt]
  obtain ⟨g1,g2⟩:=hl x (hx ▸ KQ hlt);obtain ⟨t,ht,hS⟩:=ki (yd x z g1 g2);have hm:z ∈ l.take (k+1) ↔ z ∈ l.take k \/ z=x:=by rw [KX hlt,K2,K9,hx]
  cases t with
  | true=>
   have e:=ht.1 rfl;have hmem:z ∈ l:=by rw [<- e,hx];exact KQ hlt
   rw [K4 hmem]
   repeat' first|refine gf (kf @hrow @hlt) ?_|decide|refine sp ?_ ?_<;>intro _|refine cA hS ?_|fail
  | false=>
   have hne:¬ x=z:=fun e=>by have:=ht.2 e;cases this
   repeat' first|refine gf (kf @hrow @hlt) ?_|decide|refine sp ?_ ?_<;>intro _|refine cA hS ?_|fail
   all_goals exact rI wC ⟨k+1,by omega,fun h=>(hm.1 h).elim hI fun e=>hne e.symm,rfl⟩
 .obtain rfl:k=l.length:=by omega
  rw [K7] at hI;rw [K0 hI]
  repeat' first|refine gf @hlt ?_|decide|refine sp ?_ ?_<;>intro _
theorem ER (l:List Zn) (hl:∀ y ∈ l,y.cls.length<=1000000 /\ y.gaps.length<=1000000) (hll:l.length<=2700000000000):aw Tryz.prog 125 [.sl 2 (l.map bW)] (gi 60 2 ((bM l).map bW)):=by
 refine ab ah Tryz.func125 rfl (by decide) Tryz.ntmps125 Tryz.results125 rfl (dB _ _ _) ?_
 repeat' first|refine go ?_|decide|refine sp ?_ ?_<;>intro _
 refine af (fun st=>∃ k:Nat,k<=l.length /\ st=⟨26,[(0,.sl 2 (l.map bW)),(3,.osl 0),(4,eI (k:Int))],[(0,some (.row 60 2 ((bM (l.take k)).map bW)))],1⟩) (fun st=>l.length - ap st 4) ⟨_,((bf 3 60 2 (by simp only [iu,ak.get,bl,ak.put,↓reduceIte,reduceCtorEq,Nat.reduceLT,Nat.reduceEqDiff,Nat.reduceAdd,Nat.reduceLeDiff,eq_self,implies_true,Lb,bM,MF,Lq])).trans (wS [0] (kf @Lb (kf @bM.eq_1 @MF)))),0,KR _,rfl⟩ ?_;rintro _ ⟨k,hk,rfl⟩;by_cases hlt:k<l.length
 .obtain ⟨x,hx⟩:∃ x,x=l[k]:=⟨_,rfl⟩;have hrow:(l.map bW)[k]?.getD []=bW x:=by rw [hx];simp [hlt]
  have hs:=jI hlt;obtain ⟨g1,g2⟩:=kG l k hk;obtain ⟨U,hU⟩:∃ U,U=bM (l.take k):=⟨_,rfl⟩;rw [<- hU,<- hx] at hs;rw [<- hU] at g1 g2 ⊢;have hH:=Jc U x (by omega) fun y hy=>hl y (g2 y hy);by_cases hm:x ∈ U
  .rw [K5 hm] at hs;rw [K4 hm] at hH
   repeat' first|refine gf (kf @hrow @hlt) ?_|decide|refine sp ?_ ?_<;>intro _|refine cA hH ?_|fail
   all_goals exact rI (wE hs) ⟨k+1,by omega,rfl⟩
  .rw [KY hm] at hs;rw [K0 hm] at hH;have et:(bM (l.take (k+1))).map bW=U.map bW ++ [bW x]:=by rw [hs];simp
   repeat' first|refine gf (kf @hrow @hlt) ?_|decide|refine sp ?_ ?_<;>intro _|refine cA hH ?_|(with_reducible apply And.intro)
   all_goals first
    | rfl
    | omega
    | exact rI (wS [2] et) ⟨k+1,by omega,rfl⟩
 .obtain rfl:k=l.length:=by omega
  repeat' first|refine gf (kf @hlt @K7) ?_|decide|refine sp ?_ ?_<;>intro _
  exact bk (by simp [aa.gc])
def n5 (z:Zn) (l:List Int) (r:Int):Nat -> List Zn
 | 0=>[z]
 | i+1=>bM ((n5 z l r i).flatMap fun o=>gw (dL o (l.getD i 0) (r - i)) (l.getD i 0) (r - i))
def Ea:Nat -> Nat
 | 4=>1316
 | 3=>348
 | 2=>104
 | _=>42
def HT:Nat -> Nat
 | 0=>1
 | r+1=>Ea (r+1) * HT r
theorem fL {α β:Type} (f:α -> List β) (b:Nat):∀ l:List α,(∀ x ∈ l,(f x).length<=b) -> (l.flatMap f).length<=l.length * b
 | [],_=>by simp
 | x :: l,h=>by
  have h1:=fL f b l fun y hy=>h y (Lz _ hy);have h2:=h x LD;rw [Mh,f4,KU,MM];omega
theorem Er {r:Int} (h:r<=4) (h1:1<=r):(r=4 -> (cj (r - 1)).toNat=7) /\ (r=3 -> (cj (r - 1)).toNat=3) /\ (r=2 -> (cj (r - 1)).toNat=1) /\ (r=1 -> (cj (r - 1)).toNat=0):=
 ⟨fun e=>by rw [e];decide,fun e=>by rw [e];decide,fun e=>by rw [e];decide,fun e=>by rw [e];decide⟩
theorem te (z:Zn) (a:Int) {r:Int} (hz:z.cls.length<=20) (hr:r<=4):(gw z a r).length<=if r<1 then 0 else Ea r.toNat:=by
 unfold gw;split
 .exact KR _
 .rename_i hb;have h1:¬ r<1:=fun h=>hb (.inl h);rw [KY h1];have hlo:=Er hr (by omega);have hB:=pb z a r z.cls.length;split
  .exact KR _
  .split
   .have:1<=Ea r.toNat:=by unfold Ea;split<;>omega
    simpa using this
   .rw [f4,f4,pF,tu];have h4:r=4 \/ r=3 \/ r=2 \/ r=1:=(by omega);rcases h4 with e|e|e|e
    .rw [hlo.1 e] at hB ⊢;have:=La (1+(7+1) * (7+1)) hz;subst e;show _<=1316;omega
    .rw [hlo.2.1 e] at hB ⊢;have:=La (1+(3+1) * (3+1)) hz;subst e;show _<=348;omega
    .rw [hlo.2.2.1 e] at hB ⊢;have:=La (1+(1+1) * (1+1)) hz;subst e;show _<=104;omega
    .rw [hlo.2.2.2 e] at hB ⊢;have:=La (1+(0+1) * (0+1)) hz;subst e;show _<=42;omega
theorem xK:∀ r,1<=HT r
 | 0=>KW _
 | r+1=>by
  have h1:=xK r;have h2:1<=Ea (r+1):=by unfold Ea;split<;>omega
  rw [HT];exact MH h2 h1
def KA (N:Nat) (l:List Zn):Prop:=∀ y ∈ l,kV N y
theorem od {N:Nat} (a r:Int):∀ (n:Nat) (z:Zn) (i:Nat),kV N z -> z.gaps.length=z.cls.length - 1 -> kV N (yi a r n z i) /\ (yi a r n z i).cls.length<=z.cls.length /\ (yi a r n z i).gaps.length=(yi a r n z i).cls.length - 1
 | 0,z,i,h,hg=>⟨h,KW _,hg⟩
 | n+1,z,i,h,hg=>by
  rw [yi];split
  .exact ⟨h,KW _,hg⟩
  .rename_i hi;split
   .exact od a r n z (i+1) h hg
   .have hc:=yl z a i;have hB:kV N (oh z a i):=⟨by rw [hc];exact h.cl,h.ga,B7 a i h.at_⟩;split
    .obtain ⟨w1,w2⟩:=uc (oh z a i) i r (by rw [hc];omega);have hm:=oe (oh z a i) i r _ (KW _);rw [hc] at w1 w2 hm;have hcl:=h.cl;obtain ⟨k1,k2,k3⟩:=od (N:=N) a r n (kQ (oh z a i) i r z.cls.length) i ⟨by rw [w1];omega,by rw [w2];omega,fun x hx=>hB.at_ x (hm x hx)⟩ (by rw [w1,w2]);rw [w1] at k2;exact ⟨k1,by omega,k3⟩
    .obtain ⟨k1,k2,k3⟩:=od a r n (oh z a i) (i+1) hB (by rw [hc];exact hg);exact ⟨k1,by omega,k3⟩
theorem mA {N:Nat} {z:Zn} (a r:Int) (h:kV N z):kV N (dL z a r) /\ (dL z a r).cls.length<=z.cls.length:=by
 unfold dL;split
 .rename_i hg;obtain ⟨k1,k2,_⟩:=od a r z.cls.length z 0 h (by omega);exact ⟨k1,k2⟩
 .exact ⟨h,KW _⟩
theorem pu (s i:Int):aq (cQ s i):=cw (mF s i)
theorem rJ {N:Nat} {z:Zn} (a:Int) (at_:Nat) (r:Int) (ahead:Nat) (come:List Int) (behind:Nat) (h:kV N z) (hat:at_<=z.cls.length) (hg:(ahead+come.length)+(z.gaps.length - behind)<=N+1) (hah:ahead<=z.gaps.length):kV (N+1) (gp z a at_ r ahead come behind):=by
 have hcl:=h.cl;refine ⟨?_,?_,fun x hx=>?_⟩
 .simp only [gp,f4,KU,K6,LG];omega
 .have:(lH z r).length=z.gaps.length:=by simp [lH]
  simp only [gp,f4,K6,LG];omega
 .rcases K2.1 hx with h1 | h1
  .exact h.at_ x (Lk h1)
  .rcases LR.1 h1 with h2 | h2
   .rw [h2];exact pu _ _
   .exact h.at_ x (LP h2)
theorem Gg {N:Nat} {z:Zn} (a:Int) (i:Nat) (r:Int) (h:kV N z):kV (N+1) (vp z a i r):=by
 have hcl:=h.cl;have hga:=h.ga;refine ⟨by simp [vp];omega,by simp [vp,lH];omega,fun x hx=>?_⟩;rcases LS hx with h1|h1
 .exact h.at_ x h1
 .rw [h1];exact pu _ _
theorem vm {N:Nat} {z:Zn} (a r:Int) (h:kV N z) (hg:z.gaps.length=z.cls.length - 1):∀ i,i<=z.cls.length -> ∀ y ∈ gv z a r i,kV (N+1) y
 | 0,_,y,hy=>by simp [gv] at hy
 | i+1,hi,y,hy=>by
  have hcl:=h.cl;rw [gv] at hy;rcases K2.1 hy with h1|h1
  .exact vm a r h hg i (by omega) y h1
  .split at h1
   .rcases LR.1 h1 with h2 | h2
    .rw [h2];exact Gg a i r h
    .obtain ⟨p,_,rfl⟩:=K8.1 h2;exact rJ a _ r _ _ _ h (by omega) (by simp only [KU,K3];omega) (by omega)
   .simp only [K9] at h1;rw [h1];exact Gg a i r h
theorem Dk {N:Nat} {z:Zn} (a r:Int) (h:kV N z):∀ y ∈ gw z a r,kV (N+1) y:=by
 have hcl:=h.cl;intro y hy;unfold gw at hy;split at hy
 .simp at hy
 .rename_i hb;have hg:z.gaps.length=z.cls.length - 1:=by omega
  split at hy
  .simp at hy
  .split at hy
   .rename_i h0;simp only [K9] at hy;rw [hy];exact rJ a _ r _ _ _ h (KR _) (by simp;omega) (KR _)
   .rename_i h0;rcases K2.1 hy with h1|h1
    .rcases K2.1 h1 with h2 | h2
     .obtain ⟨j,_,rfl⟩:=K8.1 h2;exact rJ a _ r _ _ _ h (KR _) (by simp;omega) (KR _)
     .exact vm a r h hg _ (KW _) y h2
    .obtain ⟨j,_,rfl⟩:=K8.1 h1;exact rJ a _ r _ _ _ h (KW _) (by simp;omega) (by omega)
theorem xV {N:Nat} {z:Zn} (l:List Int) {r:Int} (h:kV N z) (hr:r<=4):∀ i,N+i<=20 -> KA (N+i) (n5 z l r i) /\ (n5 z l r i).length * HT (r - i).toNat<=HT r.toNat
 | 0,_=>by
  refine ⟨fun y hy=>?_,?_⟩
  .simp only [n5,K9] at hy;rw [hy];exact h
  .simp [n5]
 | i+1,hi=>by
  obtain ⟨h1,h2⟩:=xV l h hr i (by omega)
  have hf:∀ o ∈ n5 z l r i,(gw (dL o (l.getD i 0) (r - i)) (l.getD i 0) (r - i)).length<=if r - i<1 then 0 else Ea (r - i).toNat:=fun o ho=>by
   have hd:=(mA (l.getD i 0) (r - i) (h1 o ho)).1.cl;exact te _ _ (by omega) (by omega)
  refine ⟨fun y hy=>?_,?_⟩
  .rw [n5,gE,Lx] at hy;obtain ⟨o,ho,hy⟩:=hy;exact Dk _ _ (mA _ _ (h1 o ho)).1 y hy
  .have h3:=kn ((n5 z l r i).flatMap fun o=>gw (dL o (l.getD i 0) (r - i)) (l.getD i 0) (r - i));have h4:=fL _ _ _ hf;rw [n5];by_cases hc:r - (i:Int)<1
   .rw [K5 hc] at h4;have h5:(bM ((n5 z l r i).flatMap fun o=>gw (dL o (l.getD i 0) (r - i)) (l.getD i 0) (r - i))).length=0:=(by omega);rw [h5,Mu];exact KR _
   .rw [KY hc] at h4;obtain ⟨q,hq⟩:∃ q:Nat,(r - (i:Int)).toNat=q+1:=⟨(r - (i:Int)).toNat - 1,by omega⟩;have hq2:(r - ((i+1:Nat):Int)).toNat=q:=(by omega);rw [hq2];rw [hq] at h2 h4;rw [HT] at h2;refine Lf (La _ (Lf h3 h4)) ?_;rw [Nat.mul_assoc];exact h2
theorem JV {r:Int} (h:r<=4):HT r.toNat<=2000404224:=by
 have:r.toNat=0 \/ r.toNat=1 \/ r.toNat=2 \/ r.toNat=3 \/ r.toNat=4:=by omega
 rcases this with e|e|e|e|e<;>rw [e]<;>decide
theorem rS {N:Nat} {z:Zn} (l:List Int) {r:Int} (h:kV N z) (hr:r<=4) (i:Nat) (hi:N+i<=20):(n5 z l r i).length<=2000404224:=by
 have h1:=(xV l h hr i hi).2;have h2:=xK (r - i).toNat
 have h3:=JV hr;have h4:=Nat.le_mul_of_pos_right (n5 z l r i).length h2;omega
theorem zh (z:Zn) (l:List Int) (r:Int) {N:Nat} (hz:kV N z) (hN:N+l.length<=20) (hl:∀ a ∈ l,0<=a /\ a<31) (hr:-1000<=r /\ r<=4):aw Tryz.prog 81 [.agg (bW z),sI l,eI r] ⟨.sl 2 ((n5 z l r l.length).map bW),[],0⟩:=by
 refine g8 60 ?_;refine ba ah Tryz.func81 rfl (by decide) Tryz.ntmps81 Tryz.results81 rfl ?_;have e00:(n5 z l r 0).map bW=[bW z]:=rfl;have ha0:∀ i:Nat,i<=20 -> IntKind.i64.wrap (r - (i:Int))=r - (i:Int):=fun i hi=>ay (by omega) (by omega)
 repeat' first|refine gq ?_|decide|refine sp ?_ ?_<;>intro _
 refine ⟨rfl,?_⟩;refine af (fun st=>∃ i:Nat,i<=l.length /\ st=⟨50,[(1,sI l),(2,eI r),(3,.op 0 0 0),(7,.osl 1),(8,eI (i:Int))],[(0,some (.box 60 (bW z))),(1,some (.row 60 2 ((n5 z l r i).map bW)))],2⟩) (fun st=>l.length - ap st 8) ⟨_,(wE e00),0,KR _,rfl⟩ ?_;rintro _ ⟨i,hi,rfl⟩;obtain ⟨hB,-⟩:=xV l hz hr.2 i (by omega);have hL:=rS l hz hr.2 i (by omega);by_cases hlt:i<l.length
 .have hBn:=rS l hz hr.2 (i+1) (by omega);obtain ⟨a,ha⟩:∃ a,a=l[i]:=⟨_,rfl⟩;have hra:(l.map fun n=>[eI n])[i]?.getD []=[eI a]:=by rw [ha];simp [hlt]
  have hga:l.getD i 0=a:=by rw [ha];simp [List.getD,hlt]
  have hao:=hl a (ha ▸ KQ hlt);have ew:=ha0 i (by omega);have hs:n5 z l r (i+1)=bM ((n5 z l r i).flatMap fun o=>gw (dL o a (r - i)) a (r - i)):=by rw [n5,hga]
  obtain ⟨O,hO⟩:∃ O,O=n5 z l r i:=⟨_,rfl⟩;rw [<- hO] at hs hB hL ⊢
  have hpl:∀ o ∈ O,(gw (dL o a (r - i)) a (r - i)).length<=1316:=fun o ho=>by
   have hd:=(mA a (r - i) (hB o ho)).1.cl;have h1:=te (dL o a (r - i)) a (r:=r - i) (by omega) (by omega);have h2:Ea (r - i).toNat<=1316:=by unfold Ea;split<;>omega
   split at h1<;>omega
  have hfl:∀ k,k<=O.length -> ((O.take k).flatMap fun o=>gw (dL o a (r - i)) a (r - i)).length<=2632531959000:=fun k hk=>by
   have h1:=fL (fun o=>gw (dL o a (r - i)) a (r - i)) 1316 (O.take k) fun o ho=>hpl o (Lk ho);rw [K6] at h1;have h2:min k O.length * 1316<=2000404224 * 1316:=La _ (by omega);omega
  repeat' first|refine gf @hlt ?_|decide|refine sp ?_ ?_<;>intro _
  refine af (fun st=>∃ k:Nat,k<=O.length /\ st=⟨50,[(1,sI l),(2,eI r),(3,.op 0 0 0),(7,.osl 1),(8,eI (i:Int)),(9,.osl 2),(10,eI (k:Int))],[(0,some (.box 60 (bW z))),(1,some (.row 60 2 (O.map bW))),(2,some (.row 60 2 (((O.take k).flatMap fun o=>gw (dL o a (r - i)) a (r - i)).map bW)))],3⟩) (fun st=>O.length - ap st 10) ⟨_,((bf 9 60 2 (by simp only [iu,ak.get,bl,ak.put,↓reduceIte,reduceCtorEq,Nat.reduceLT,Nat.reduceEqDiff,Nat.reduceAdd,Nat.reduceLeDiff,eq_self,implies_true,Lb,LL,Lq])).trans (wS [0,1,2] (kf @Lb @LL))),0,KR _,rfl⟩ ?_;rintro _ ⟨k,hk,rfl⟩;have hFk:=hfl k hk;by_cases hlk:k<O.length
  .obtain ⟨o,ho⟩:∃ o,o=O[k]:=⟨_,rfl⟩;have hom:o ∈ O:=ho ▸ KQ hlk;have hro:(O.map bW)[k]?.getD []=bW o:=by rw [ho];simp [hlk]
   have hD:=G2 o a (r - i) (N:=N+i) (by omega) (hB o hom) hao;have hdB:=(mA a (r - i) (hB o hom)).1;have hP:=Ff (dL o a (r - i)) a (r - i) (N:=N+i) (by omega) hdB ⟨by omega,by omega⟩;have hpo:=hpl o hom
   have et:((O.take (k+1)).flatMap fun o=>gw (dL o a (r - i)) a (r - i)).map bW=((O.take k).flatMap fun o=>gw (dL o a (r - i)) a (r - i)).map bW ++ (gw (dL o a (r - i)) a (r - i)).map bW:=by
    rw [KX hlk,LW,<- ho];simp
   obtain ⟨F,hF⟩:∃ F,F=(O.take k).flatMap fun o=>gw (dL o a (r - i)) a (r - i):=⟨_,rfl⟩;rw [<- hF] at et hFk ⊢;obtain ⟨D,hDe⟩:∃ D,D=dL o a (r - i):=⟨_,rfl⟩;rw [<- hDe] at hD hP hpo et;obtain ⟨P,hPe⟩:∃ P,P=gw D a (r - i):=⟨_,rfl⟩;rw [<- hPe] at hP hpo et
   repeat' first|refine ge (kf @hlt (kf @hlk (kf @hro (kf @hra ew)))) ?_|decide|refine sp ?_ ?_<;>intro _
   refine aB [2] [0,1,2,3,4,5,6,7,8,9,10,11,13,14,15,16,17,18,19] (.exec 12 (.exec 20 (.exec 21 (.exec 22 .done)))) (by kernel_rfl) (by simp [aa.gc]) ?_
   repeat' first|refine gf (kf @hlt (kf @hlk (kf @hro (kf @hra ew)))) ?_|decide|refine sp ?_ ?_<;>intro _|refine cA hD ?_|refine cA hP ?_|(with_reducible apply And.intro)
   all_goals first
    | rfl
    | omega
    | exact rI (wS [0,1,3] (kf et hF)) ⟨k+1,by omega,rfl⟩
  .obtain rfl:k=O.length:=by omega
   rw [K7] at hFk ⊢
   have hZB:∀ y ∈ O.flatMap fun o=>gw (dL o a (r - i)) a (r - i),y.cls.length<=1000000 /\ y.gaps.length<=1000000:=fun y hy=>by
    obtain ⟨o,ho,hy⟩:=Lx.1 hy;have h1:=Dk a (r - i) (mA a (r - i) (hB o ho)).1 y hy;have h2:=h1.cl;have h3:=h1.ga;exact ⟨by omega,by omega⟩
   have hU:=ER _ hZB (by omega);rw [<- hs] at hU
   repeat' first|refine gf @hlk ?_|decide|refine sp ?_ ?_<;>intro _
   refine qH [2] (R:=gi 60 2 ((n5 z l r (i+1)).map bW)) ?_ ?_ ?_
   .repeat' first|decide|refine go ?_
    exact hU
   .repeat' first|decide|refine go ?_
    left;simp [gb,iv,bu,b7]
   .repeat' first|refine go ?_|simp only [gi,dp,eT,fQ,ar.shift]|decide|refine sp ?_ ?_<;>intro _
    all_goals exact rI (wR [0,3]) ⟨i+1,by omega,rfl⟩
 .obtain rfl:i=l.length:=by omega
  repeat' first|refine gf @hlt ?_|decide|refine sp ?_ ?_<;>intro _
  all_goals exact xv rfl jm
end
section
structure Nd where
 z:Zn
 opn:Int
 don:Int
 did:List Int
 cnt:List Int
abbrev dX (n:Nd):List AV:=[.sl 2 (n.z.cls.map bR),sI n.z.gaps,eI n.opn,eI n.don,sI n.did,sI n.cnt]
def bt (n:Nd):St:=⟨[],n.opn,n.don,n.did,n.cnt⟩
theorem rb (n:Nd) (h1:n.did.length<=1000000) (h2:n.cnt.length<=1000000):aw Tryz.prog 38 [.agg (dX n)] ⟨.agg [.c (.slice none 0 0),eI n.opn,eI n.don,sI n.did,sI n.cnt],[],0⟩:=by
 refine aw.still (R:=⟨.agg [.c (.slice none 0 0),eI n.opn,eI n.don,.osl 0,.osl 1],[(0,some (.row 3 1 (n.did.map fun n=>[eI n]))),(1,some (.row 3 1 (n.cnt.map fun n=>[eI n])))],2⟩) [0,1] ?_ (by simp [ce.frzs,ce.frz,aa.gc,AV.frz,AV.frzL,bK,ar.frz]) (by simp [AV.lt,AV.ltL]);refine ab ah Tryz.func38 rfl (by decide) Tryz.ntmps38 Tryz.results38 rfl (jr (by simp [cg,ar.lt,AV.ltL,AV.lt]) (by simp [AV.lt,AV.ltL])) ?_
 repeat' first|refine go ?_|decide|refine sp ?_ ?_<;>intro _
 refine aB [1] [0,1,2,3,5,6,9,10] (.two 4 (.two 7 (.exec 8 (.exec 11 (.take 12 (.exec 13 .done)))) 8 (.exec 7 (.exec 11 (.take 12 (.exec 13 .done))))) 8 (.exec 4 (.exec 7 (.exec 11 (.take 12 (.exec 13 .done)))))) (by kernel_rfl) (by simp [aa.gc]) ?_
 repeat' first|refine gq ?_|decide|refine sp ?_ ?_<;>intro _|(with_reducible apply And.intro)
 all_goals first
  | omega
  | rfl
  | exact ⟨[3,5],by decide,rfl,by simp [b9,aa.gc]⟩
  | exact ⟨[4,5],by decide,rfl,by simp [b9,aa.gc]⟩
  | exact ⟨[5,4],by decide,rfl,by simp [b9,aa.gc]⟩
  | exact ⟨[5,3],by decide,rfl,by simp [b9,aa.gc]⟩
end
section
theorem E6 (l:List dN) (k:Nat):(kS l k).Pairwise (· < ·):=List.Pairwise.filter _ List.pairwise_lt_range
theorem Dm (l:List dN) (k:Nat) {i:Nat} (h:i ∈ kS l k):i<k:=by
 unfold kS at h;simp at h;exact h.1
def dT (z:Zn):List Nat:=kS z.cls z.cls.length
def xC (z:Zn) (n:Int) (c:List Int) (r:Int):Prop:=
 ((0<=n /\ n<=31) /\ oi z.cls n ((aP c).length:Int) /\ s7 z (cj r)) /\ ∀ i,i+1<(dT z).length -> lU z ((dT z).getD i 0) ((dT z).getD (i+1) 0) (cj r) ((aP c).getD i 0) ((aP c).getD (i+1) 0)
end
section
theorem nP (z:Zn) (p:Nat):cE z p p=[]:=by
 unfold cE;rw [List.drop_eq_nil_iff,K6];omega
theorem uD (z:Zn) {p q:Nat} {g:Int} (h:z.gaps[q]? = some g) (hpq:p<=q):cE z p (q+1)=cE z p q ++ [g]:=by
 have hq:q<z.gaps.length:=(KS.1 h).1;unfold cE;rw [ML,h,List.drop_append_of_le_length (by rw [K6];omega)];rfl
end
section
end
section
end
section
end
section
theorem JN (a b:Nat) (ha:a<2 ^ 63) (hb:b<2 ^ 63):Kt (a:Int) (b:Int)=((a ||| b:Nat):Int):=by
 show IntKind.i64.wrap ((BitVec.ofInt 64 (a:Int) ||| BitVec.ofInt 64 (b:Int)).toNat:Int)=_;rw [BitVec.toNat_or,ia a (by omega),ia b (by omega)];exact uO _ (Nat.or_lt_two_pow ha hb)
theorem A9 (a b:Nat) (ha:a<2 ^ 63) (hb:b<2 ^ 63):Kh (a:Int) (b:Int)=((a &&& b:Nat):Int):=by
 show IntKind.i64.wrap ((BitVec.ofInt 64 (a:Int) &&& BitVec.ofInt 64 (b:Int)).toNat:Int)=_;rw [BitVec.toNat_and,ia a (by omega),ia b (by omega)];exact uO _ (Nat.lt_of_le_of_lt Nat.and_le_left (by omega))
def aN (x:dN):Nat:=x.attrs.toNat
theorem lO:∀ l:List dN,(∀ x ∈ l,0<=x.attrs /\ x.attrs<9223372036854775808) -> ∃ A:Nat,Av l=(A:Int) /\ A<2 ^ 63 /\ ∀ q,A.testBit q=true ↔ ∃ x ∈ l,(aN x).testBit q=true:=fun L=>by
 induction hk:L.length using Nat.strongRecOn generalizing L with
 | _ k ih=>
  intro hL;rcases List.eq_nil_or_concat L with rfl|⟨l,m,rfl⟩
  .exact ⟨0,rfl,by decide,fun q=>by simp⟩
  .rw [List.concat_eq_append] at *;obtain ⟨A,h1,h2,h3⟩:=ih l.length (by simp at hk;omega) l rfl fun x hx=>hL x (List.mem_append_left _ hx);have hm:=hL m (by simp);have e1:m.attrs=((aN m:Nat):Int):=by unfold aN;omega
   have hlt:aN m<2 ^ 63:=by unfold aN;omega
   refine ⟨A ||| aN m,?_,Nat.or_lt_two_pow h2 hlt,fun q=>?_⟩
   .rw [Al,h1,e1,JN _ _ h2 hlt]
   .rw [Nat.testBit_or,Bool.or_eq_true,h3];simp only [K2,K9];constructor
    .rintro (⟨x,hx,hb⟩ | hb)
     .exact ⟨x,.inl hx,hb⟩
     .exact ⟨m,.inr rfl,hb⟩
    .rintro ⟨x,hx | rfl,hb⟩
     .exact .inl ⟨x,hx,hb⟩
     .exact .inr hb
structure ZB (l:List dN) (n:Nat):Prop where
 nn:∀ x ∈ l,0<=x.attrs /\ x.attrs<2147483648
 lt:∀ x ∈ l,∀ q,(aN x).testBit q=true -> q<n
 dis:∀ i j (hi:i<l.length) (hj:j<l.length) (q:Nat),(aN l[i]).testBit q=true -> (aN l[j]).testBit q=true -> i=j
 all:∀ q,q<n -> ∃ i,∃ h:i<l.length,(aN l[i]).testBit q=true
theorem JP {l:List dN} {n:Nat} {k:Int} (hn:n<=31) (h:oi l (n:Int) k) (hl:∀ x ∈ l,x.attrs<9223372036854775808):ZB l n:=by
 obtain ⟨h1,h2,_⟩:=h
 have hnn:∀ x ∈ l,0<=x.attrs /\ x.attrs<9223372036854775808:=fun x hx=>by
  obtain ⟨i,hi,rfl⟩:=Le hx;exact ⟨(h1 i hi).1,hl _ (KQ hi)⟩
 obtain ⟨A,hA,hAlt,hAb⟩:=lO l hnn
 have hA2:A=2 ^ n - 1:=by
  rw [hA] at h2;unfold k8 at h2;have e:(max 0 (min (n:Int) 31)).toNat=n:=by omega
  rw [e] at h2;have h3:1<=2 ^ n:=Nat.one_le_two_pow;have h4:((2 ^ n - 1:Nat):Int)=(2:Int) ^ n - 1:=by rw [Int.natCast_sub h3];simp
  omega
 have hlt:∀ x ∈ l,∀ q,(aN x).testBit q=true -> q<n:=fun x hx q hq=>by
  have:=(hAb q).2 ⟨x,hx,hq⟩;rw [hA2,Nat.testBit_two_pow_sub_one] at this;simpa using this
 have hlow:∀ i j (hi:i<l.length) (hj:j<l.length) (q:Nat),i<j -> (aN l[i]).testBit q=true -> (aN l[j]).testBit q=true -> False:=fun i j hi hj q hij h3 h4=>by
  have h5:=(h1 j hj).2.1;obtain ⟨B,hB,hBlt,hBb⟩:=lO (l.take j) fun x hx=>hnn x (Lk hx);have e1:l[j].attrs=((aN l[j]:Nat):Int):=by have:=hnn _ (KQ hj);unfold aN;omega
  have hlt2:aN l[j]<2 ^ 63:=by have:=hnn _ (KQ hj);unfold aN;omega
  rw [hB,e1,A9 _ _ hlt2 hBlt] at h5;have h6:aN l[j] &&& B=0:=by omega
  have h7:(aN l[j] &&& B).testBit q=true:=by
   rw [Nat.testBit_and,h4,(hBb q).2 ⟨l[i],List.mem_take_iff_getElem.2 ⟨i,by omega,rfl⟩,h3⟩];rfl
  rw [h6] at h7;simp at h7
 refine ⟨fun x hx=>⟨(hnn x hx).1,?_⟩,hlt,fun i j hi hj q h3 h4=>?_,fun q hq=>?_⟩
 .have:aN x<2 ^ 31:=Nat.lt_pow_two_of_testBit _ fun q hq=>by
   cases hb:(aN x).testBit q with
   | false=>rfl
   | true=>have:=hlt x hx q hb;omega
  have h0:=(hnn x hx).1;unfold aN at this;omega
 .rcases Mz i j with h5 | h5 | h5
  .exact (hlow i j hi hj q h5 h3 h4).elim
  .exact h5
  .exact (hlow j i hj hi q h5 h4 h3).elim
 .have:A.testBit q=true:=by
   rw [hA2,Nat.testBit_two_pow_sub_one];simpa using hq
  obtain ⟨x,hx,hb⟩:=(hAb q).1 this;obtain ⟨i,hi,rfl⟩:=Le hx;exact ⟨i,hi,hb⟩
theorem lK {l:List dN} (h:∀ i (h:i<l.length),Da (l.take i) l[i]):∀ k,k<=l.length -> (kS l k).length=dV (l.take k)
 | 0,_=>by simp [kS,dV]
 | k+1,hk=>by
  have ih:=lK h k (by omega);have hc:=(h k (by omega)).2.2.2;rw [kz l (by omega),KX (by omega),pP];by_cases h1:l[k].const = -1
  .rw [KY (by omega),K5 h1];omega
  .rw [K5 (by omega),KY h1,f4,Lo];omega
theorem tE (l:List dN) {i:Nat}:∀ d,i+d<=l.length -> ∃ t,kS l (i+d)=kS l i ++ t
 | 0,_=>⟨[],by simp⟩
 | d+1,hd=>by
  obtain ⟨t,ht⟩:=tE l (i:=i) d (by omega);rw [show i+(d+1)=i+d+1 by omega,kz l (by omega)];split
  .exact ⟨t ++ [i+d],by rw [ht,KZ]⟩
  .exact ⟨t,ht⟩
theorem G1 {z:Zn} (h:∀ i (h:i<z.cls.length),Da (z.cls.take i) z.cls[i]) {i:Nat} (hi:i<z.cls.length) (hc:z.cls[i].const ≠ -1):∃ j:Nat,z.cls[i].const=(j:Int) /\ ∃ hj:j<(dT z).length,(dT z)[j]=i:=by
 have h1:=((h i hi).2.2.2).resolve_left hc;have h2:=lK h i (by omega);obtain ⟨t,ht⟩:=tE z.cls (i:=i+1) (z.cls.length - (i+1)) (by omega);rw [show i+1+(z.cls.length - (i+1))=z.cls.length by omega,kz z.cls hi,K5 (by omega)] at ht;have e:dT z=kS z.cls i ++ [i] ++ t:=ht;refine ⟨(kS z.cls i).length,by omega,by rw [e];simp,?_⟩;simp [e]
end
end
section
section
def b5 (l:List dN) (a:Int):Nat:=l.countP fun x=>aW x.attrs a
theorem wm (l:List dN) (x:dN) (a:Int):b5 (l ++ [x]) a=b5 l a+(if aW x.attrs a=true then 1 else 0):=by
 unfold b5;rw [List.countP_append];cases h:aW x.attrs a<;>simp [h]
theorem AU (l:List dN) (a:Int):b5 l a<=l.length:=List.countP_le_length
theorem H9 (z:Zn) (a:Int) (h1:z.cls.length<=1000000) (hat:∀ x ∈ z.cls,aq x.attrs):aw Tryz.prog 192 [.agg (bW z),eI a] (val (.int .i64 (b5 z.cls a:Int))):=by
 refine ab ah Tryz.func192 rfl (by decide) Tryz.ntmps192 Tryz.results192 rfl (aU _) ?_
 repeat' first|refine go ?_|decide|refine sp ?_ ?_<;>intro _
 refine af (fun st=>∃ (k:Nat) (s:Int),k<=z.cls.length /\ s=(b5 (z.cls.take k) a:Int) /\ st=⟨25,[(1,eI a),(2,.op 0 0 0),(5,eI s),(6,eI (k:Int))],[(0,some (.box 60 (bW z)))],1⟩) (fun st=>z.cls.length - ap st 6) ⟨_,wC,0,0,KR _,rfl,rfl⟩ ?_;rintro _ ⟨k,s,hk,hs,rfl⟩;by_cases hlt:k<z.cls.length
 .have htk:b5 (z.cls.take (k+1)) a=b5 (z.cls.take k) a+(if aW z.cls[k].attrs a=true then 1 else 0):=by rw [KX hlt,wm]
  have hle:=AU (z.cls.take k) a;rw [K6] at hle;have hH:=dk z.cls[k].attrs a (hat _ (KQ hlt));generalize hc:z.cls[k]=c at *
  cases hb:aW c.attrs a with
  | true=>
   rw [hb] at hH;rw [hb,K5 rfl] at htk;have ew:IntKind.i64.wrap (s+1)=s+1:=ay (by omega) (by omega)
   repeat' first|refine gq ?_|simp only [ae,hlt,hc,ew]|decide|refine sp ?_ ?_<;>intro _|refine cA hH ?_|fail
   all_goals exact rI (wE ew) ⟨k+1,s+1,by omega,by omega,rfl⟩
  | false=>
   rw [hb] at hH;rw [hb,KY (by simp)] at htk
   repeat' first|refine gq ?_|simp only [ae,hlt,hc]|decide|refine sp ?_ ?_<;>intro _|refine cA hH ?_|fail
   all_goals exact rI wC ⟨k+1,s,by omega,by omega,rfl⟩
 .obtain rfl:k=z.cls.length:=by omega
  rw [K7] at hs;rw [<- hs]
  repeat' first|refine gf @hlt ?_|decide|refine sp ?_ ?_<;>intro _
def Gj (l:List dN) (n:Int) (k:Nat):Bool:=(List.range k).all fun a=>decide ((b5 l (a:Int):Int)=if (a:Int)<n then 1 else 0)
theorem Bb (l:List dN) (n:Int) (k:Nat):Gj l n (k+1)=(Gj l n k && decide ((b5 l (k:Int):Int)=if (k:Int)<n then 1 else 0)):=by
 unfold Gj;rw [LX,List.all_append];simp
def nw (l:List dN) (x:dN):Bool:=decide (0<=x.attrs) && decide (x.attrs<2147483648) && (decide (0<x.attrs) || decide (0<=x.const)) && (x.const == -1 || x.const == (dV l:Int))
def D1 (l:List dN) (n:Int) (k:Nat):Bool:=Gj l n 31 && (List.range k).all fun i=>nw (l.take i) (l.getD i ⟨0,0⟩)
theorem C6 (l:List dN) (n:Int) {k:Nat} (hk:k<l.length):D1 l n (k+1)=(D1 l n k && nw (l.take k) l[k]):=by
 unfold D1;rw [LX,List.all_append,Bool.and_assoc];simp [KP,KN hk]
theorem yQ (z:Zn) (n m:Int) (h1:z.cls.length<=1000000) (hat:∀ x ∈ z.cls,aq x.attrs):aw Tryz.prog 150 [.agg (bW z),eI n,eI m] (val (.bool (D1 z.cls n z.cls.length && decide ((dV z.cls:Int)=m)))):=by
  refine ab ah Tryz.func150 rfl (by decide) Tryz.ntmps150 Tryz.results150 rfl (aU _) ?_
  repeat' first|refine go ?_|decide|refine sp ?_ ?_<;>intro _
  refine af (fun st=>∃ (k:Nat) (ok:Bool),k<=31 /\ ok=Gj z.cls n k /\ st=⟨88,[(1,eI n),(2,eI m),(3,.op 0 0 0),(7,.c (.bool ok)),(8,eI (k:Int))],[(0,some (.box 60 (bW z)))],1⟩) (fun st=>31 - ap st 8) ⟨_,wC,0,true,KR _,rfl,rfl⟩ ?_;rintro _ ⟨k,ok,hk,hok,rfl⟩;by_cases hlt:k<31
  . have d0:decide ((k:Int)<31)=true:=K4 (by omega);have hs:=Bb z.cls n k;rw [<- hok] at hs;have hS:=H9 z (k:Int) h1 hat
    generalize (b5 z.cls (k:Int):Int)=s at *;by_cases g:(k:Int)<n
    . have d1:decide ((k:Int)<n)=true:=K4 g;rw [K5 g] at hs
      cases ok with
      | false=>
        repeat' first|refine gf (kf d0 d1) ?_|decide|refine sp ?_ ?_<;>intro _
        all_goals exact rI wC ⟨k+1,false,by omega,by rw [hs];rfl,rfl⟩
      | true=>
        have e1:(s == 1)=decide (s=1):=by by_cases h:s=1<;>simp [h]
        repeat' first|refine gf (kf d0 d1) ?_|decide|refine sp ?_ ?_<;>intro _|refine cA hS ?_|fail
        all_goals exact rI wC ⟨k+1,(s == 1),by omega,by rw [hs,e1];rfl,rfl⟩
    . have d1:decide ((k:Int)<n)=false:=K0 g;rw [KY g] at hs
      cases ok with
      | false=>
        repeat' first|refine gf (kf d0 d1) ?_|decide|refine sp ?_ ?_<;>intro _
        all_goals exact rI wC ⟨k+1,false,by omega,by rw [hs];rfl,rfl⟩
      | true=>
        have e1:(s == 0)=decide (s=0):=by by_cases h:s=0<;>simp [h]
        repeat' first|refine gf (kf d0 d1) ?_|decide|refine sp ?_ ?_<;>intro _|refine cA hS ?_|fail
        all_goals exact rI wC ⟨k+1,(s == 0),by omega,by rw [hs,e1];rfl,rfl⟩
  obtain rfl:k=31:=by omega
  have d0:decide (((31:Nat):Int)<31)=false:=rfl
  repeat' first|refine gf d0 ?_|decide|refine sp ?_ ?_<;>intro _
  clear hk;refine af (fun st=>∃ (i:Nat) (o:Bool) (x:Int),i<=z.cls.length /\ o=D1 z.cls n i /\ x=(dV (z.cls.take i):Int) /\ st=⟨88,[(1,eI n),(2,eI m),(3,.op 0 0 0),(7,.c (.bool o)),(9,eI x),(10,eI (i:Int))],[(0,some (.box 60 (bW z)))],1⟩) (fun st=>z.cls.length - ap st 10) ⟨_,wC,0,ok,0,KR _,by rw [hok];simp [D1],rfl,rfl⟩ ?_;rintro _ ⟨i,o,x,hi,ho,hx,rfl⟩;by_cases hlt:i<z.cls.length
  . have hnx:(dV (z.cls.take (i+1)):Int)=x+(if z.cls[i].const = -1 then 0 else 1):=by rw [KX hlt,pP,hx];split<;>simp
    have hnl:x<=1000000:=by have:=Bw (z.cls.take i);rw [K6] at this;omega
    have hs:=C6 z.cls n hlt;rw [<- ho] at hs;unfold nw at hs;rw [<- hx] at hs;have hx0:0<=x:=(by omega);clear hx ho;generalize hc:z.cls[i]=c at *;obtain ⟨g1,d1⟩:∃ b,decide (0<=c.attrs)=b:=⟨_,rfl⟩;obtain ⟨g2,d2⟩:∃ b,decide (c.attrs<2147483648)=b:=⟨_,rfl⟩;obtain ⟨g3,d3⟩:∃ b,decide (0<c.attrs)=b:=⟨_,rfl⟩;obtain ⟨g4,d4⟩:∃ b,decide (0<=c.const)=b:=⟨_,rfl⟩;obtain ⟨g5,d5⟩:∃ b,(c.const == -1)=b:=⟨_,rfl⟩;obtain ⟨g6,d6⟩:∃ b,(c.const == x)=b:=⟨_,rfl⟩;have d7:(c.const != -1) = !g5:=by rw [<- d5];rfl
    have ew:IntKind.i64.wrap (x+1)=x+1:=ay (by omega) (by omega);rw [d1,d2,d3,d4,d5,d6] at hs
    have hnx2:(dV (z.cls.take (i+1)):Int)=if g5=true then x else x+1:=by
      rw [hnx,<- d5];by_cases h:c.const = -1<;>simp [h]
    clear hnx;cases o<;>cases g5
    . (repeat' (first|refine gq ?_|simp only [ae,hlt,hc,d7,MQ,Bool.not_true,ew]|decide|refine sp ?_ ?_<;>intro _))
      all_goals exact rI (wE ew) ⟨i+1,false,x+1,by omega,by rw [hs];rfl,by rw [hnx2];rfl,rfl⟩
    . (repeat' (first|refine gq ?_|simp only [ae,hlt,hc,d7,MQ,Bool.not_true,ew]|decide|refine sp ?_ ?_<;>intro _))
      all_goals exact rI (wE ew) ⟨i+1,false,x,by omega,by rw [hs];rfl,by rw [hnx2];rfl,rfl⟩
    . cases g1<;>cases g2<;>cases g3<;>cases g4<;>cases g6 <;>
      ((repeat' (first|refine gq ?_|simp only [ae,hlt,hc,d1,d2,d3,d4,d5,d6,d7,MQ,Bool.not_true,ew]|decide|refine sp ?_ ?_<;>intro _))
       all_goals first|exact rI (wE ew) ⟨i+1,true,x+1,by omega,by rw [hs];rfl,by rw [hnx2];rfl,rfl⟩|exact rI (wE ew) ⟨i+1,false,x+1,by omega,by rw [hs];rfl,by rw [hnx2];rfl,rfl⟩)
    . cases g1<;>cases g2<;>cases g3<;>cases g4 <;>
      ((repeat' (first|refine gq ?_|simp only [ae,hlt,hc,d1,d2,d3,d4,d5,d7,MQ,Bool.not_true,ew]|decide|refine sp ?_ ?_<;>intro _))
       all_goals first|exact rI (wE ew) ⟨i+1,true,x,by omega,by rw [hs];rfl,by rw [hnx2];rfl,rfl⟩|exact rI (wE ew) ⟨i+1,false,x,by omega,by rw [hs];rfl,by rw [hnx2];rfl,rfl⟩)
  . obtain rfl:i=z.cls.length:=by omega
    rw [K7] at hx;have e1:decide ((dV z.cls:Int)=m)=(x == m):=by rw [hx];by_cases h:(dV z.cls:Int)=m<;>simp [h]
    rw [e1,<- ho]
    cases o with
    | false=>
      repeat' first|refine gf @hlt ?_|decide|refine sp ?_ ?_<;>intro _
      all_goals simp
    | true=>
      repeat' first|refine gf @hlt ?_|decide|refine sp ?_ ?_<;>intro _
      all_goals simp
end
section
theorem gy {x:dN} (h:0<=x.attrs /\ x.attrs<2147483648) {a:Nat} (ha:a<31):aW x.attrs (a:Int)=(aN x).testBit a:=by
 rw [cJ _ _ ha]
 congr 1
 unfold kY aN;omega
theorem AH {l:List dN} {a:Int} {i j:Nat} (hij:i<j) (hj:j<l.length) (h1:aW (l[i]'(by omega)).attrs a=true) (h2:aW l[j].attrs a=true):2<=b5 l a:=by
 have e:b5 l a=b5 (l.take j) a+b5 (l.drop j) a:=by
  unfold b5;rw [<- List.countP_append,List.take_append_drop]
 have p1:0<b5 (l.take j) a:=MO.2 ⟨l[i],List.mem_take_iff_getElem.2 ⟨i,by omega,rfl⟩,h1⟩;have p2:0<b5 (l.drop j) a:=MO.2 ⟨l[j],by rw [List.drop_eq_getElem_cons hj];exact LD ..,h2⟩;omega
theorem nU {a:Int}:∀ l:List dN,(∀ i j (hi:i<l.length) (hj:j<l.length),aW l[i].attrs a=true -> aW l[j].attrs a=true -> i=j) -> b5 l a<=1
 | [],_=>by simp [b5]
 | x :: l,h=>by
  have ih:=nU l fun i j hi hj h1 h2=>by
   have:=h (i+1) (j+1) (by simpa using hi) (by simpa using hj) (by simpa using h1) (by simpa using h2);omega
  by_cases hx:aW x.attrs a=true
  .have hz:b5 l a=0:=List.countP_eq_zero.2 fun y hy hb=>by
    obtain ⟨j,hj,rfl⟩:=Le hy;have:=h 0 (j+1) (by simp) (by simpa using hj) (by simpa using hx) (by simpa using hb);omega
   unfold b5 at *;rw [List.countP_cons,hz,K5 hx];exact KW _
  .unfold b5 at *;rw [List.countP_cons,KY hx];exact ih
theorem xZ (l:List dN) (n:Int) (k:Nat):Gj l n k=true ↔ ∀ a:Nat,a<k -> (b5 l (a:Int):Int)=if (a:Int)<n then 1 else 0:=by
 unfold Gj;rw [List.all_eq_true];simp only [Ma,Lp]
theorem lj (l:List dN) (x:dN):nw l x=true ↔ (0<=x.attrs /\ x.attrs<2147483648) /\ (0<x.attrs \/ 0<=x.const) /\ (x.const = -1 \/ x.const=(dV l:Int)):=by
 unfold nw;simp only [Li,Bool.or_eq_true,Lp,MC];constructor
 .rintro ⟨⟨⟨h1,h2⟩,h3⟩,h4⟩;exact ⟨⟨h1,h2⟩,h3,h4⟩
 .rintro ⟨⟨h1,h2⟩,h3,h4⟩;exact ⟨⟨⟨h1,h2⟩,h3⟩,h4⟩
theorem yf (l:List dN) (n:Int):D1 l n l.length=true ↔ Gj l n 31=true /\ ∀ i (h:i<l.length),nw (l.take i) l[i]=true:=by
 unfold D1;rw [Li,List.all_eq_true];constructor
 .rintro ⟨h1,h2⟩;refine ⟨h1,fun i h=>?_⟩;have:=h2 i (Ma.2 h)
  rwa [KP,KN h] at this
 .rintro ⟨h1,h2⟩;refine ⟨h1,fun i h=>?_⟩;have:=h2 i (Ma.1 h)
  rwa [KP,KN (Ma.1 h)]
theorem o0 (l:List dN) (n:Nat) (m:Int) (hn:n<=31) (hat:∀ x ∈ l,x.attrs<9223372036854775808):(D1 l (n:Int) l.length && decide ((dV l:Int)=m))=true ↔ oi l (n:Int) m:=by
 rw [Li,Lp,yf,xZ];constructor
 .rintro ⟨⟨hA,hC⟩,hm⟩;have hc:=fun i h=>(lj _ _).1 (hC i h)
  have hnn:∀ x ∈ l,0<=x.attrs /\ x.attrs<2147483648:=fun x hx=>by
   obtain ⟨i,hi,rfl⟩:=Le hx;exact (hc i hi).1
  have hb31:∀ x ∈ l,∀ q,(aN x).testBit q=true -> q<31:=fun x hx q hq=>by
   rcases Ld q 31 with h|h
   .exact h
   .have h2:aN x<2 ^ q:=K1 (show aN x<2 ^ 31 by have:=hnn x hx;unfold aN;omega) (Lu (by omega) h);rw [Mf h2] at hq;cases hq
  have hdis:∀ i j (hi:i<l.length) (hj:j<l.length) (q:Nat),i<j -> (aN l[i]).testBit q=true -> (aN l[j]).testBit q=true -> False:=fun i j hi hj q hij h1 h2=>by
   have hq:=hb31 _ (KQ hi) q h1;rw [<- gy (hnn _ (KQ hi)) hq] at h1;rw [<- gy (hnn _ (KQ hj)) hq] at h2;have:=AH hij hj h1 h2;have h5:=hA q hq;split at h5<;>omega
  refine ⟨fun i h=>⟨(hc i h).1.1,?_,?_,(hc i h).2.2⟩,?_,hm⟩
  .obtain ⟨B,hB,hBlt,hBb⟩:=lO (l.take i) fun x hx=>by have:=hnn x (Lk hx);omega
   have h0:=(hc i h).1;have e1:l[i].attrs=((aN l[i]:Nat):Int):=by unfold aN;omega
   rw [hB,e1,A9 _ _ (by unfold aN;omega) hBlt]
   have:aN l[i] &&& B=0:=Nat.eq_of_testBit_eq fun q=>by
    rw [Nat.zero_testBit,Nat.testBit_and]
    cases h1:(aN l[i]).testBit q with
    | false=>rfl
    | true=>
     cases h2:B.testBit q with
     | false=>rfl
     | true=>
      obtain ⟨x,hx,hb⟩:=(hBb q).1 h2;obtain ⟨j,hj,rfl⟩:=List.mem_take_iff_getElem.1 hx;exact (hdis j i (by omega) h q (by omega) hb h1).elim
   rw [this];rfl
  .rintro ⟨h1,h2⟩;have:=(hc i h).2.1;omega
  .obtain ⟨A,hA1,hA2,hA3⟩:=lO l fun x hx=>by have:=hnn x hx;omega
   have e:(max 0 (min (n:Int) 31)).toNat=n:=(by omega);have h3:1<=2 ^ n:=Nat.one_le_two_pow;have h4:((2 ^ n - 1:Nat):Int)=(2:Int) ^ n - 1:=by rw [Int.natCast_sub h3];simp
   rw [hA1];unfold k8;rw [e,<- h4]
   congr 1
   refine Nat.eq_of_testBit_eq fun q=>?_;rw [Nat.testBit_two_pow_sub_one];rw [MB,hA3,Lp];constructor
   .rintro ⟨x,hx,hb⟩;have hq:=hb31 x hx q hb;rw [<- gy (hnn x hx) hq] at hb;have h5:=hA q hq;have h6:0<b5 l (q:Int):=MO.2 ⟨x,hx,hb⟩;split at h5<;>omega
   .intro hq;have h5:=hA q (by omega);rw [K5 (by omega)] at h5;obtain ⟨x,hx,hb⟩:=MO.1 (show 0<b5 l (q:Int) by omega);rw [gy (hnn x hx) (by omega)] at hb;exact ⟨x,hx,hb⟩
 .intro h;have hB:=JP hn h hat
  refine ⟨⟨fun a ha=>?_,fun i hi=>(lj _ _).2 ⟨hB.nn _ (KQ hi),?_,(h.1 i hi).2.2.2⟩⟩,h.2.2⟩
  .have hle:=nU (a:=(a:Int)) l fun i j hi hj h1 h2=>by
    rw [gy (hB.nn _ (KQ hi)) ha] at h1;rw [gy (hB.nn _ (KQ hj)) ha] at h2;exact hB.dis i j hi hj a h1 h2
   split
   .obtain ⟨i,hi,hb⟩:=hB.all a (by omega);rw [<- gy (hB.nn _ (KQ hi)) ha] at hb;have h6:0<b5 l (a:Int):=MO.2 ⟨_,KQ hi,hb⟩;omega
   .have:b5 l (a:Int)=0:=List.countP_eq_zero.2 fun x hx hb=>by
     rw [gy (hB.nn x hx) ha] at hb;have:=hB.lt x hx a hb;omega
    omega
  .have h1:=(h.1 i hi).2.2;have h2:=(h.1 i hi).1;rcases h1.2 with h3|h3
   .have:¬ l[i].attrs=0:=fun h4=>h1.1 ⟨h4,h3⟩;omega
   .omega
end
section
theorem Hh (z:Zn) (p q:Nat) (cap a b:Int) (hpq:p<q) (hq:q<=z.gaps.length) (h2:z.gaps.length<=40) (hg:∀ i (h:i<z.gaps.length),0<=z.gaps[i] /\ z.gaps[i]<=cap) (hcap:0<=cap /\ cap<=1048576) (ha:aq a) (hb:aq b) :
  cT Tryz.prog 151 [.agg (bW z),eI (p:Int),eI (q:Int),eI cap,eI a,eI b] fun R=>∃ t,R=val (.bool t) /\ (t=true ↔ lU z p q cap a b):=by
 refine ba ah Tryz.func151 rfl (by decide) Tryz.ntmps151 Tryz.results151 rfl ?_;unfold lU
 have hsb:∀ k,p<=k -> k<=q -> 0<=(cE z p k).sum /\ (cE z p k).sum<=42000000:=fun k h1 h2k=>by
  have h:=BK cap hcap.1 (cE z p k) fun g hgm=>by
   obtain ⟨i,hi,rfl⟩:=Le (Lk (LP hgm));exact hg i hi
  have h5:((cE z p k).length:Int)<=40:=by unfold cE;rw [LG,K6];omega
  have h6:cap * ((cE z p k).length:Int)<=1048576 * 40:=Int.mul_le_mul hcap.2 h5 (by omega) (by omega);omega
 have e1:IntKind.i64.wrap ((q:Int) - (p:Int))=(q:Int) - p:=ay (by omega) (by omega);obtain ⟨B,hB⟩:∃ B,(q:Int) - p - 1=B:=⟨_,rfl⟩;have e2:IntKind.i64.wrap ((q:Int) - (p:Int) - 1)=B:=by rw [hB];exact ay (by omega) (by omega)
 rw [hB];have hB1:0<=B /\ B<=40:=by omega
 repeat' first|refine ge (kf e1 e2) ?_|decide|refine sp ?_ ?_<;>intro _
 refine af (fun st=>∃ (k:Nat) (s:Int) (w:Bool),p<=k /\ k<=q /\ s=B+(cE z p k).sum /\ (w=true ↔ ∃ g ∈ cE z p k,g=cap) /\ st=⟨60,[(2,eI (q:Int)),(3,eI cap),(4,eI a),(5,eI b),(6,.op 0 0 0),(13,eI s),(14,.c (.bool w)),(15,eI (k:Int))],[(0,some (.box 60 (bW z)))],1⟩) (fun st=>q - ap st 15) ⟨_,(wE (kf e1 e2)),p,B,false,KW _,by omega,by rw [nP];simp,by rw [nP];simp,rfl⟩ ?_;rintro _ ⟨k,s,w,hpk,hk,hs,hw,rfl⟩;by_cases hlt:k<q
 .have hkg:k<z.gaps.length:=by omega
  have htk:cE z p (k+1)=cE z p k ++ [z.gaps[k]]:=uD z (KN hkg) hpk;have h5:=hsb k hpk (by omega);have h6:=hsb (k+1) (by omega) (by omega);rw [htk,List.sum_append,List.sum_singleton] at h6;have d0:decide ((k:Int)<(q:Int))=true:=K4 (by omega);have es:IntKind.i64.wrap (s+z.gaps[k])=s+z.gaps[k]:=ay (by omega) (by omega);have hs2:s+z.gaps[k]=B+(cE z p (k+1)).sum:=by rw [htk,List.sum_append,List.sum_singleton];omega
  have hw2:(w || z.gaps[k] == cap)=true ↔ ∃ g ∈ cE z p (k+1),g=cap:=by
   rw [htk,Bool.or_eq_true,hw];simp only [K2,K9,MC];constructor
   .rintro (⟨g,h1,h2⟩ | h)
    .exact ⟨g,.inl h1,h2⟩
    .exact ⟨_,.inr rfl,h⟩
   .rintro ⟨g,h1 | rfl,h2⟩
    .exact .inl ⟨g,h1,h2⟩
    .exact .inr h2
  clear hw hs hsb htk hg;generalize hgk:z.gaps[k]=g at *
  cases w with
  | true=>
   repeat' first|refine gq ?_|simp only [ae,hkg,hgk,hlt,es]|decide|refine sp ?_ ?_<;>intro _
   all_goals exact rI (wE es) ⟨k+1,s+g,true,by omega,by omega,hs2,by simpa using hw2,rfl⟩
  | false=>
   by_cases hgc:g=cap
   .have d1:(g == cap)=true:=by simpa using hgc
    repeat' first|refine gq ?_|simp only [ae,hkg,hgk,hlt,es,d1]|decide|refine sp ?_ ?_<;>intro _
    all_goals exact rI (wE (kf es d1)) ⟨k+1,s+g,true,by omega,by omega,hs2,by rw [<- hw2,d1];rfl,rfl⟩
   .have d1:(g == cap)=false:=by simpa using hgc
    repeat' first|refine gq ?_|simp only [ae,hkg,hgk,hlt,es,d1]|decide|refine sp ?_ ?_<;>intro _
    all_goals exact rI (wE (kf es d1)) ⟨k+1,s+g,false,by omega,by omega,hs2,by rw [<- hw2,d1];rfl,rfl⟩
 .obtain rfl:k=q:=by omega
  have d0:decide ((k:Int)<(k:Int))=false:=by simp
  have h5:=hsb k hpk (KW _);have es:IntKind.i64.wrap (s+1)=s+1:=ay (by omega) (by omega);have hG:=F4 a b (s+1) ha hb (by omega);rw [<- hs];by_cases g1:lx a b (s+1)=s
  .have d1:(lx a b (s+1) == s)=true:=by simpa using g1
   repeat' first|refine gf (kf @hlt (kf es d1)) ?_|decide|refine sp ?_ ?_<;>intro _|refine cA hG ?_|fail
   all_goals exact bZ ⟨true,rfl,by simp [g1]⟩
  .have d1:(lx a b (s+1) == s)=false:=by simpa using g1
   cases w with
   | true=>
    repeat' first|refine gf (kf @hlt (kf es d1)) ?_|decide|refine sp ?_ ?_<;>intro _|refine cA hG ?_|fail
    all_goals exact bZ ⟨_,rfl,by simp at hw;simp [g1,hw]⟩
   | false=>
    repeat' first|refine gf (kf @hlt (kf es d1)) ?_|decide|refine sp ?_ ?_<;>intro _|refine cA hG ?_|fail
    all_goals exact bZ ⟨_,rfl,by simp at hw;simp [g1,hw]⟩
theorem y8 (z:Zn) (n:Int) (c:List Int) (r:Int) (h1:z.cls.length<=40) (h2:z.gaps.length<=40) (h3:c.length<=100000) (hc:∀ x ∈ c,aq x) (hr:cj r<=1048576) (hat:∀ x ∈ z.cls,aq x.attrs):cT Tryz.prog 122 [.agg (bW z),eI n,sI c,eI r] fun R=>∃ b,R=val (.bool b) /\ (b=true ↔ xC z n c r):=by
 refine ba ah Tryz.func122 rfl (by decide) Tryz.ntmps122 Tryz.results122 rfl ?_;have hS:=eQ c (by omega);have hCap:=qQ r;have hcap0:=IU r;have hsl:=cW c;have hso:∀ x ∈ aP c,aq x:=fun x hx=>hc x (((dJ c).2 x).1 hx);unfold xC;generalize aP c=sc at *;generalize cj r=cap at *;by_cases g1:0<=n
 .have d1:decide (n<0)=false:=by simpa using g1
  by_cases g2:n<=31
  .have d2:decide (31<n)=false:=(by simpa using g2);obtain ⟨m,rfl⟩:∃ m:Nat,n=(m:Int):=⟨n.toNat,by omega⟩;have hC:=yQ z (m:Int) (sc.length:Int) (by omega) hat
   have hfd:=o0 z.cls m (sc.length:Int) (by omega) fun x hx=>by have:=hat x hx;unfold aq at this;omega
   generalize (D1 z.cls (m:Int) z.cls.length && decide ((dV z.cls:Int)=(sc.length:Int)))=t1 at *;rw [<- hfd]
   cases t1 with
   | false=>
    repeat' first|refine gf (kf d1 d2) ?_|decide|refine sp ?_ ?_<;>intro _|refine cA hS ?_|refine cA hC ?_|fail
    all_goals exact bZ ⟨false,rfl,by simp⟩
   | true=>
    have hF:=hfd.1 rfl;have e1:IntKind.i64.wrap ((z.cls.length:Int) - 1)=(z.cls.length:Int) - 1:=ay (by omega) (by omega);by_cases g3:(z.gaps.length:Int)=max ((z.cls.length:Int) - 1) 0
    .have d3:((z.gaps.length:Int) != max ((z.cls.length:Int) - 1) 0)=false:=by simp [g3]
     repeat' first|refine gf (kf d1 (kf d2 (kf d3 e1))) ?_|decide|refine sp ?_ ?_<;>intro _|refine cA hS ?_|refine cA hC ?_|fail
     refine af (fun st=>∃ i:Nat,i<=z.gaps.length /\ (∀ j (h:j<z.gaps.length),j<i -> 0<=z.gaps[j] /\ z.gaps[j]<=cap) /\ st=⟨100,[(3,eI r),(4,.op 0 0 0),(9,sI sc),(10,eI (-1)),(11,eI (i:Int))],[(0,some (.box 60 (bW z)))],1⟩) (fun st=>z.gaps.length - ap st 11) ⟨_,wC,0,KR _,fun j _ h=>by omega,rfl⟩ ?_;rintro _ ⟨i,hi,hok,rfl⟩;by_cases hlt:i<z.gaps.length
     .have hno:¬ (0<=z.gaps[i] /\ z.gaps[i]<=cap) -> ¬ s7 z cap:=fun h h2=>h (h2.2 i hlt)
      have hok2:(0<=z.gaps[i] /\ z.gaps[i]<=cap) -> ∀ j (h:j<z.gaps.length),j<i+1 -> 0<=z.gaps[j] /\ z.gaps[j]<=cap:=fun h j hj hji=>by
       rcases Ld j i with h2|h2
       .exact hok j hj h2
       .obtain rfl:j=i:=by omega
        exact h
      generalize hg:z.gaps[i]=g at *;by_cases g4:g<0
      .have d4:decide (g<0)=true:=by simpa using g4
       repeat' first|refine gq ?_|simp only [ae,hlt,hg,d4]|decide|refine sp ?_ ?_<;>intro _|refine cA hCap ?_|fail
       all_goals exact bZ ⟨false,rfl,by simp;exact fun _ h=>(hno (by omega) h).elim⟩
      .have d4:decide (g<0)=false:=(by simpa using g4);by_cases g5:cap<g
       .have d5:decide (cap<g)=true:=by simpa using g5
        repeat' first|refine gq ?_|simp only [ae,hlt,hg,d4,d5]|decide|refine sp ?_ ?_<;>intro _|refine cA hCap ?_|fail
        all_goals exact bZ ⟨false,rfl,by simp;exact fun _ h=>(hno (by omega) h).elim⟩
       .have d5:decide (cap<g)=false:=by simpa using g5
        repeat' first|refine gq ?_|simp only [ae,hlt,hg,d4,d5]|decide|refine sp ?_ ?_<;>intro _|refine cA hCap ?_|fail
        all_goals exact rI wC ⟨i+1,by omega,hok2 ⟨by omega,by omega⟩,rfl⟩
     obtain rfl:i=z.gaps.length:=by omega
     have hG:s7 z cap:=⟨g3,fun j hj=>hok j hj hj⟩
     repeat' first|refine gf @hlt ?_|decide|refine sp ?_ ?_<;>intro _
     clear hok hi
     have hFl:(dT z).length=sc.length:=by
      have e1:=lK hF.1 z.cls.length (KW _);rw [K7] at e1;have e2:=hF.2.2;unfold dT;omega
     have hlt2:∀ i ∈ dT z,i<z.cls.length:=fun i hi=>Dm _ _ hi;have hgl:=hG.1
     have hRoom:∀ i,i+1<(dT z).length -> ∃ t:Bool,(t=true ↔ lU z ((dT z).getD i 0) ((dT z).getD (i+1) 0) cap (sc.getD i 0) (sc.getD (i+1) 0)) /\ aw Tryz.prog 151 [.agg (bW z),eI (((dT z).getD i 0:Nat):Int),eI (((dT z).getD (i+1) 0:Nat):Int),eI cap,eI (sc.getD i 0),eI (sc.getD (i+1) 0)] (val (.bool t)):=fun i hi=>by
      have e1:(dT z).getD i 0=(dT z)[i]:=by rw [KP,KN (by omega)];rfl
      have e2:(dT z).getD (i+1) 0=(dT z)[i+1]:=by rw [KP,KN (by omega)];rfl
      have e3:sc.getD i 0=sc[i]:=by rw [KP,KN (by omega)];rfl
      have e4:sc.getD (i+1) 0=sc[i+1]:=by rw [KP,KN (by omega)];rfl
      have h5:=Mg.1 (E6 z.cls z.cls.length) i (i+1) (by unfold dT at hi;omega) (by unfold dT at hi;omega) (by omega);have h6:=hlt2 _ (KQ hi);exact ki (Hh z _ _ cap _ _ (by rw [e1,e2];exact h5) (by rw [e2];omega) h2 hG.2 ⟨hcap0,hr⟩ (by rw [e3];exact hso _ (KQ _)) (by rw [e4];exact hso _ (KQ _)))
     refine af (fun st=>∃ (i m:Nat) (w:Int),i<=z.cls.length /\ m=(kS z.cls i).length /\ ((m=0 /\ w = -1) \/ (0<m /\ w=(((dT z).getD (m - 1) 0:Nat):Int))) /\ (∀ j,j+1<m -> lU z ((dT z).getD j 0) ((dT z).getD (j+1) 0) cap (sc.getD j 0) (sc.getD (j+1) 0)) /\ st=⟨100,[(3,eI r),(4,.op 0 0 0),(9,sI sc),(10,eI w),(12,eI (i:Int))],[(0,some (.box 60 (bW z)))],1⟩) (fun st=>z.cls.length - ap st 12) ⟨_,wC,0,0,-1,KR _,rfl,.inl ⟨rfl,rfl⟩,fun j h=>by omega,rfl⟩ ?_;rintro _ ⟨i,m',w,hi,hm,hw,hok,rfl⟩;by_cases hlt:i<z.cls.length
     .have hsn:=kz z.cls hlt;have hn1:=lK hF.1 i (by omega);have hfa:=G1 hF.1 hlt;have hco:=(hF.1 i hlt).2.2.2;generalize hcc:z.cls[i]=c at *;by_cases g4:c.const = -1
      .have d4:decide (c.const<0)=true:=by rw [g4];rfl
       rw [KY (by omega)] at hsn
       repeat' first|refine gq ?_|simp only [ae,hlt,hcc,d4]|decide|refine sp ?_ ?_<;>intro _
       all_goals exact rI wC ⟨i+1,m',w,by omega,by rw [hsn];exact hm,hw,hok,rfl⟩
      .have hco2:=hco.resolve_left g4;obtain ⟨j,hj1,hj2,hj3⟩:=hfa g4;obtain rfl:m'=j:=by omega
       have d4:decide (c.const<0)=false:=by rw [hj1];simp
       rw [K5 (by omega)] at hsn;have hm2:m'+1=(kS z.cls (i+1)).length:=by rw [hsn,f4,<- hm];rfl
       have hwi:((0=m'+1 /\ (i:Int) = -1) \/ (0<m'+1 /\ (i:Int)=(((dT z).getD (m'+1 - 1) 0:Nat):Int))):=.inr ⟨by omega,by rw [MU,KP,KN hj2,Lm,hj3]⟩;rcases hw with ⟨hm0,hw0⟩|⟨hm0,hw0⟩
       .subst hw0
        repeat' first|refine gq ?_|simp only [ae,hlt,hcc,d4,Int.reduceLE,Int.reduceLT,Int.reduceNeg]|decide|refine sp ?_ ?_<;>intro _|refine cA hCap ?_|fail
        all_goals exact rI wC ⟨i+1,m'+1,i,by omega,hm2,by omega,fun j h=>by omega,rfl⟩
       .obtain ⟨k,rfl⟩:∃ k,m'=k+1:=⟨m' - 1,by omega⟩;obtain ⟨t,ht,hR⟩:=hRoom k hj2;have hi2:(dT z).getD (k+1) 0=i:=(by rw [KP,KN hj2,Lm,hj3]);have hs0:k<sc.length:=(by omega);have hs1:k+1<sc.length:=(by omega);have e3:sc.getD k 0=sc[k]:=by rw [KP,KN hs0];rfl
        have e4:sc.getD (k+1) 0=sc[k+1]:=by rw [KP,KN hs1];rfl
        rw [MU] at hw0
        have hok2:lU z ((dT z).getD k 0) ((dT z).getD (k+1) 0) cap (sc.getD k 0) (sc.getD (k+1) 0) -> ∀ i,i+1<k+1+1 -> lU z ((dT z).getD i 0) ((dT z).getD (i+1) 0) cap (sc.getD i 0) (sc.getD (i+1) 0):=fun h i h1=>by
         rcases Ld i k with h3|h3
         .exact hok i (by omega)
         .obtain rfl:i=k:=by omega
          exact h
        have hno:¬ lU z ((dT z).getD k 0) ((dT z).getD (k+1) 0) cap (sc.getD k 0) (sc.getD (k+1) 0) -> ¬ ∀ i,i+1<(dT z).length -> lU z ((dT z).getD i 0) ((dT z).getD (i+1) 0) cap (sc.getD i 0) (sc.getD (i+1) 0):=fun h h2=>h (h2 k hj2);rw [<- ht] at hok2 hno;rw [<- hw0,hi2,e3,e4] at hR;have f1:sc[k]? = some sc[k]:=KN hs0;have f2:sc[k+1]? = some sc[k+1]:=KN hs1;have hw1:0<=w:=(by omega);have d5:decide (0<=w)=true:=K4 hw1;have d4b:decide (((k+1:Nat):Int)<0)=false:=by simp only [Lc];omega
        have e5:IntKind.i64.wrap (((k+1:Nat):Int) - 1)=(k:Int):=by rw [ay (by omega) (by omega)];omega
        clear hRoom ht hok hco hfa e3 e4;obtain ⟨x3,hx3⟩:∃ x,sc[k]=x:=⟨_,rfl⟩;obtain ⟨x4,hx4⟩:∃ x,sc[k+1]=x:=⟨_,rfl⟩;rw [hx3,hx4] at hR
        cases t with
        | true=>
         repeat' first|refine gq ?_|simp only [ae,hlt,hcc,d4b,d5,hj1,hs0,hs1,hx3,hx4,e5]|decide|refine sp ?_ ?_<;>intro _|refine cA hCap ?_|refine cA hR ?_|fail
         all_goals exact rI wC ⟨i+1,k+1+1,i,by omega,hm2,by omega,hok2 rfl,rfl⟩
        | false=>
         repeat' first|refine gq ?_|simp only [ae,hlt,hcc,d4b,d5,hj1,hs0,hs1,hx3,hx4,e5]|decide|refine sp ?_ ?_<;>intro _|refine cA hCap ?_|refine cA hR ?_|fail
         all_goals exact bZ ⟨false,rfl,⟨fun h=>(by cases h),fun h=>absurd h.2 (hno (by simp))⟩⟩
     .obtain rfl:i=z.cls.length:=by omega
      repeat' first|refine gf @hlt ?_|decide|refine sp ?_ ?_<;>intro _
      all_goals exact bZ ⟨true,rfl,by simp;exact ⟨⟨by omega,hG⟩,fun i h=>hok i (by rw [hm];exact h)⟩⟩
    .have d3:((z.gaps.length:Int) != max ((z.cls.length:Int) - 1) 0)=true:=by simpa using g3
     repeat' first|refine gf (kf d1 (kf d2 (kf d3 e1))) ?_|decide|refine sp ?_ ?_<;>intro _|refine cA hS ?_|refine cA hC ?_|fail
     all_goals exact bZ ⟨false,rfl,by simp;exact fun _ h=>(g3 h.1).elim⟩
  .have d2:decide (31<n)=true:=by simpa using g2
   repeat' first|refine gf (kf d1 d2) ?_|decide|refine sp ?_ ?_<;>intro _|refine cA hS ?_|fail
   all_goals exact bZ ⟨false,rfl,by simp;omega⟩
 .have d1:decide (n<0)=true:=by simpa using g1
  repeat' first|refine gf d1 ?_|decide|refine sp ?_ ?_<;>intro _|refine cA hS ?_|fail
  all_goals exact bZ ⟨false,rfl,by simp;omega⟩
end
section
end
section
def cr (s:Int) (k:Nat):List Nat:=(List.range k).filter fun i=>aW s (i:Int)
theorem kN (s:Int) (k:Nat):cr s (k+1)=if aW s (k:Int)=true then cr s k ++ [k] else cr s k:=by
 unfold cr;rw [LX,List.filter_append];split
 .rename_i h;simp [h]
 .rename_i h;simp [h]
theorem dH (s:Int) (k:Nat):(cr s k).length<=k:=by
 have:=List.length_filter_le (fun i:Nat=>aW s (i:Int)) (List.range k);unfold cr;simpa using this
theorem BL (s:Int) (k:Nat) {i:Nat}:i ∈ cr s k ↔ i<k /\ aW s (i:Int)=true:=by simp [cr]
theorem wh (s:Int):aw Tryz.prog 106 [eI s] (gi 3 1 ((cr s 31).map fun n:Nat=>[eI (n:Int)])):=by
 refine ab ah Tryz.func106 rfl (by decide) Tryz.ntmps106 Tryz.results106 rfl (dB _ _ _) ?_
 repeat' first|refine go ?_|decide|refine sp ?_ ?_<;>intro _
 refine af (fun st=>∃ k:Nat,k<=31 /\ st=⟨17,[(0,eI s),(3,.osl 0),(5,eI (k:Int))],[(0,some (.row 3 1 ((cr s k).map fun n:Nat=>[eI (n:Int)])))],1⟩) (fun st=>31 - ap st 5) ⟨_,((bf 3 3 1 (by simp only [iu,ak.get,bl,ak.put,↓reduceIte,reduceCtorEq,Nat.reduceLT,Nat.reduceEqDiff,Nat.reduceAdd,Nat.reduceLeDiff,eq_self,implies_true,cr,L7,MZ,Lq])).trans (wS [0] (kf @cr.eq_1 (kf @L7 @MZ)))),0,KR _,rfl⟩ ?_;rintro _ ⟨k,hk,rfl⟩;by_cases hlt:k<31
 .have d0:decide ((k:Int)<31)=true:=K4 (by omega);have hs:=kN s k;have hl:=dH s k;have hH:=Kf s (k:Int)
  cases hb:aW s (k:Int) with
  | true=>
   rw [hb] at hH;rw [hb,K5 rfl] at hs;have hsn:(cr s (k+1)).map (fun n:Nat=>[eI (n:Int)])=(cr s k).map (fun n:Nat=>[eI (n:Int)]) ++ [[eI (k:Int)]]:=by rw [hs,Lr];rfl
   repeat' first|refine gf d0 ?_|decide|refine sp ?_ ?_<;>intro _|refine cA hH ?_|(with_reducible apply And.intro)
   all_goals first
    | rfl
    | omega
    | exact rI (wS [2] @hsn) ⟨k+1,by omega,rfl⟩
  | false=>
   rw [hb] at hH;rw [hb,KY (by simp)] at hs
   repeat' first|refine gf d0 ?_|decide|refine sp ?_ ?_<;>intro _|refine cA hH ?_|(with_reducible apply And.intro)
   all_goals exact rI (wS [0] hs) ⟨k+1,by omega,rfl⟩
 .obtain rfl:k=31:=by omega
  have d0:decide (((31:Nat):Int)<31)=false:=rfl
  repeat' first|refine gf d0 ?_|decide|refine sp ?_ ?_<;>intro _
  all_goals exact bk (by simp [aa.gc])
end
section
theorem zG (l:List aJ) (h:∀ x ∈ l,x.ok):∀ n ∈ bX l,aq n:=fun n hn=>by
 obtain ⟨x,hx,hm⟩:=Lx.1 hn;have hxo:=h x hx;unfold jl at hm;split at hm
 .rcases K2.1 hm with hm | hm
  .split at hm
   .simp at hm;rw [hm];exact hxo.2.2.1
   .cases hm
  .split at hm
   .simp at hm;rw [hm];exact hxo.2.2.2.2.1
   .cases hm
 .cases hm
end
end
section
section
def bF (l:List aJ):List Int:=aP (bX l)
def fP (m:aR) (p:List aJ):List Int:=aP ((bF p ++ m.guards.flatMap fun g=>bF g.cond) ++ m.miles.flatMap fun g=>bF g.cond)
theorem dy (l:List aJ):(bF l).length<=2 * l.length:=by
 have h1:=cW (bX l);have h2:=jH l;unfold bF;omega
theorem iH {α:Type} (f:α -> List Int) (g:α -> Nat) (h:∀ x,(f x).length<=2 * g x):∀ l:List α,(l.flatMap f).length<=2 * (l.map g).sum
 | []=>by simp
 | x :: l=>by
  have h1:=h x;have h2:=iH f g h l;simp only [Mh,f4,Mc,List.sum_cons];omega
theorem kJ {α:Type} (f:α -> List Int) (l:List α) (k:Nat):((l.take k).flatMap f).length<=(l.flatMap f).length:=by
 conv=>rhs;rw [<- List.take_append_drop k l,LW,f4]
 omega
theorem mI {α:Type} (g:α -> Nat) {l:List α} {x:α} (h:x ∈ l):g x<=(l.map g).sum:=by
 induction l with
 | nil=>cases h
 | cons y l ih=>
  simp only [Mc,List.sum_cons]
  cases LR.1 h with
  | inl e=>subst e;omega
  | inr e=>have:=ih e;omega
theorem jD {α:Type} (f:α -> List Int) (l:List α) {k:Nat} (h:k<l.length):(l.take (k+1)).flatMap f=(l.take k).flatMap f ++ f l[k]:=by
 rw [KX h,LW];simp
theorem zN (m:aR) (p:List aJ) (hg:m.guards.length<=11000000) (hm:m.miles.length<=11000000) (hT:p.length+(m.guards.map fun g=>g.cond.length).sum+(m.miles.map fun g=>g.cond.length).sum<=1100000):aw Tryz.prog 10 [.agg (aM m),bw p] ⟨sI (fP m p),[],0⟩:=by
 have hok:(⟨sI (fP m p),[],0⟩:ce).Ok:=⟨fun id o h=>(by cases h),by simp [AV.lt]⟩;refine ab ah Tryz.func10 rfl (by decide) Tryz.ntmps10 Tryz.results10 rfl (hok) ?_;have hgc:∀ g ∈ m.guards,g.cond.length<=1100000:=fun g hg=>by have:=mI (fun g:Gd=>g.cond.length) hg;omega
 have hmc:∀ g ∈ m.miles,g.cond.length<=1100000:=fun g hg=>by have:=mI (fun g:Ml=>g.cond.length) hg;omega
 have hN:aw Tryz.prog 30 [bw p] ⟨sI (bF p),[],0⟩:=fe p (by omega);have hpl:=dy p;obtain ⟨f,hf⟩:∃ f,f=fun g:Gd=>bF g.cond:=⟨_,rfl⟩;obtain ⟨g2,hg2⟩:∃ f,f=fun g:Ml=>bF g.cond:=⟨_,rfl⟩
 have hfl:∀ k,((m.guards.take k).flatMap f).length<=2 * (m.guards.map fun g=>g.cond.length).sum:=fun k=>by
  rw [hf];exact Lf (kJ _ _ k) (iH (fun g:Gd=>bF g.cond) (fun g=>g.cond.length) (fun x=>dy x.cond) m.guards)
 have hgl:∀ k,((m.miles.take k).flatMap g2).length<=2 * (m.miles.map fun g=>g.cond.length).sum:=fun k=>by
  rw [hg2];exact Lf (kJ _ _ k) (iH (fun g:Ml=>bF g.cond) (fun g=>g.cond.length) (fun x=>dy x.cond) m.miles)
 have hC:fP m p=aP ((bF p ++ m.guards.flatMap f) ++ m.miles.flatMap g2):=by rw [hf,hg2];rfl
 rw [hC]
 have hlt1:(bF p ++ m.guards.flatMap f).length<=2200000:=by
  have:=hfl m.guards.length;rw [K7] at this;rw [f4];omega
 have hlt2:((bF p ++ m.guards.flatMap f) ++ m.miles.flatMap g2).length<=4400000:=by
  have:=hgl m.miles.length;rw [K7] at this;rw [f4];omega
 have hS:=eQ ((bF p ++ m.guards.flatMap f) ++ m.miles.flatMap g2) (by omega)
 repeat' first|refine gq ?_|decide|refine sp ?_ ?_<;>intro _|refine cA hN ?_|(with_reducible apply And.intro)
 all_goals first
  | rfl
  | omega
  | skip
 refine af (fun st=>∃ k:Nat,k<=m.guards.length /\ st=⟨46,[(2,.op 0 0 0),(5,.osl 1),(6,eI (k:Int))],[(0,some (.box 32 (aM m))),(1,some (.row 2 1 ((bF p ++ (m.guards.take k).flatMap f).map fun n=>[eI n])))],2⟩) (fun st=>m.guards.length - ap st 6) ⟨_,(wS [0,2] (kf @Lb @LL)),0,KR _,rfl⟩ ?_;rintro _ ⟨k,hk,rfl⟩;by_cases hlt:k<m.guards.length
 .obtain ⟨x,hx⟩:∃ x,m.guards[k]=x:=⟨_,rfl⟩;have hxc:=hgc x (hx ▸ KQ hlt);have hNx:aw Tryz.prog 30 [bw x.cond] ⟨sI (bF x.cond),[],0⟩:=fe x.cond (by omega)
  have hsn:(bF p ++ (m.guards.take (k+1)).flatMap f).map (fun n=>[eI n])=(bF p ++ (m.guards.take k).flatMap f).map (fun n=>[eI n]) ++ (bF x.cond).map (fun n=>[eI n]):=by
   rw [jD f _ hlt,hx,<- KZ,Lr,hf]
  have hl1:(bF p ++ (m.guards.take k).flatMap f).length<=2200000:=by have:=hfl k;rw [f4];omega
  have hl2:=dy x.cond
  repeat' first|refine gq ?_|simp only [ae,hlt,hx]|decide|refine sp ?_ ?_<;>intro _|refine cA hNx ?_|(with_reducible apply And.intro)
  all_goals first
   | rfl
   | omega
   | exact rI (wS [0,2] @hsn) ⟨k+1,by omega,rfl⟩
 .obtain rfl:k=m.guards.length:=by omega
  rw [K7];obtain ⟨O,hO⟩:∃ O,bF p ++ m.guards.flatMap f=O:=⟨_,rfl⟩;rw [hO] at hlt1 hlt2 hS ⊢
  repeat' first|refine gf @hlt ?_|decide|refine sp ?_ ?_<;>intro _
  refine af (fun st=>∃ k:Nat,k<=m.miles.length /\ st=⟨46,[(2,.op 0 0 0),(5,.osl 1),(7,eI (k:Int))],[(0,some (.box 32 (aM m))),(1,some (.row 2 1 ((O ++ (m.miles.take k).flatMap g2).map fun n=>[eI n])))],2⟩) (fun st=>m.miles.length - ap st 7) ⟨_,(wE (kf @Lb @LL)),0,KR _,rfl⟩ ?_;rintro _ ⟨k,hk2,rfl⟩;by_cases hlt3:k<m.miles.length
  .obtain ⟨x,hx⟩:∃ x,m.miles[k]=x:=⟨_,rfl⟩;have hxc:=hmc x (hx ▸ KQ hlt3);have hNx:aw Tryz.prog 30 [bw x.cond] ⟨sI (bF x.cond),[],0⟩:=fe x.cond (by omega)
   have hsn:(O ++ (m.miles.take (k+1)).flatMap g2).map (fun n=>[eI n])=(O ++ (m.miles.take k).flatMap g2).map (fun n=>[eI n]) ++ (bF x.cond).map (fun n=>[eI n]):=by
    rw [jD g2 _ hlt3,hx,<- KZ,Lr,hg2]
   have hl1:(O ++ (m.miles.take k).flatMap g2).length<=4400000:=by have:=hgl k;rw [f4];omega
   have hl2:=dy x.cond
   repeat' first|refine gq ?_|simp only [ae,hlt3,hx]|decide|refine sp ?_ ?_<;>intro _|refine cA hNx ?_|(with_reducible apply And.intro)
   all_goals first
    | rfl
    | omega
    | exact rI (wS [0,2] @hsn) ⟨k+1,by omega,rfl⟩
  .obtain rfl:k=m.miles.length:=by omega
   rw [K7]
   repeat' first|refine ge @hlt3 ?_|decide|refine sp ?_ ?_<;>intro _
   refine qH [1] (R:=⟨sI (aP (O ++ m.miles.flatMap g2)),[],0⟩) ?_ ?_ ?_
   .repeat' first|decide|refine go ?_
    exact hS
   .repeat' first|decide|refine go ?_
    left;simp [gb,iv,bu,b7]
   .repeat' first|refine gq ?_|decide|refine sp ?_ ?_<;>intro _
    all_goals exact a5 (by first|rfl|simp [AV.ren,AV.renL])
theorem AA (m:aR) (p:List aJ) (hp:p.length<=400) (hg:m.guards.length<=14) (hm:m.miles.length<=10) (hgc:∀ g ∈ m.guards,g.cond.length<=80) (hmc:∀ g ∈ m.miles,g.cond.length<=80):aw Tryz.prog 10 [.agg (aM m),bw p] ⟨sI (fP m p),[],0⟩:=by
 have h:∀ (α:Type) (f:α -> Nat) (l:List α),(∀ x ∈ l,f x<=80) -> (l.map f).sum<=80 * l.length:=fun α f l=>by
  induction l with
  | nil=>simp
  | cons x l ih=>
   intro h;have:=h x (LD ..);have:=ih fun y hy=>h y (Lz _ hy);simp only [Mc,List.sum_cons,KU];omega
 have:=h _ (fun g:Gd=>g.cond.length) m.guards hgc;have:=h _ (fun g:Ml=>g.cond.length) m.miles hmc;exact zN m p (by omega) (by omega) (by omega)
end
section
def rH (c:List Int) (i:Nat):Int:=if i<c.length /\ 0<c.getD i 0 then c.getD i 0 else 0
def D2 (m:aR) (c:List Int) (k:Nat):Int:=(max 0 ((m.events[k]?.map (·.times)).getD 0 - rH c k)).toNat * (((m.events[k]?.map (·.sets.length)).getD 0:Nat):Int)
def dC (m:aR) (c:List Int):Nat -> Int
 | 0=>0
 | k+1=>dC m c k+D2 m c k
theorem ve (c:List Int) (i:Nat):0<=rH c i:=by
 unfold rH;split<;>omega
theorem Au (m:aR) (c:List Int) (he:m.events.length<=10) (hm:∀ e ∈ m.events,e.times<=1000 /\ e.sets.length<=10) (hc:c.length<=1000000):aw Tryz.prog 82 [.agg (aM m),sI c] (val (.int .i64 (dC m c m.events.length))):=by
 refine ab ah Tryz.func82 rfl (by decide) Tryz.ntmps82 Tryz.results82 rfl (aU _) ?_
 repeat' first|refine go ?_|decide|refine sp ?_ ?_<;>intro _
 refine af (fun st=>∃ (k:Nat) (n:Int),k<=m.events.length /\ n=dC m c k /\ 0<=n /\ n<=10000 * k /\ st=⟨50,[(1,sI c),(2,.op 0 0 0),(5,eI n),(6,eI (k:Int))],[(0,some (.box 32 (aM m)))],1⟩) (fun st=>m.events.length - ap st 6) ⟨_,wC,0,0,KR _,rfl,by omega,by omega,rfl⟩ ?_;rintro _ ⟨k,n,hk,hn,hn0,hn1,rfl⟩;by_cases hlt:k<m.events.length
 .obtain ⟨e,hev⟩:∃ e,m.events[k]=e:=⟨_,rfl⟩;obtain ⟨ht,hs⟩:=hm e (hev ▸ KQ hlt);have hw0:=ve c k
  have hE:D2 m c k=(max 0 (e.times - rH c k)).toNat * (e.sets.length:Int):=by
   unfold D2;rw [KN hlt,hev];rfl
  obtain ⟨w,hw⟩:∃ w,rH c k=w:=⟨_,rfl⟩;rw [hw] at hE hw0;obtain ⟨J,hJ⟩:∃ J,(max 0 (e.times - w)).toNat=J:=⟨_,rfl⟩;rw [hJ] at hE;have hJ10:J<=100000:=by omega
  obtain ⟨S,hS⟩:∃ S,e.sets.length=S:=⟨_,rfl⟩;rw [hS] at hE hs;by_cases hkc:k<c.length
  .by_cases hpos:0<c[k]
   .have hwc:c[k]=w:=by
     rw [<- hw,rH,K5 ⟨hkc,by rw [KP,KN hkc];exact hpos⟩,KP,KN hkc];rfl
    have d1:decide (0<w)=true:=by rw [<- hwc];simpa using hpos
    repeat' first|refine gq ?_|simp only [ae,hlt,hkc,hwc,d1]|decide|refine sp ?_ ?_<;>intro _
    refine af (fun st=>∃ (j:Nat) (was q:Int),j<=J /\ was=w+j /\ q=n+((j * S:Nat):Int) /\ st=⟨50,[(1,sI c),(2,.op 0 0 0),(5,eI q),(6,eI (k:Int)),(7,eI was)],[(0,some (.box 32 (aM m)))],1⟩) (fun st=>1000 - ap st 7) ⟨_,wC,0,w,n,KR _,by omega,by simp,rfl⟩ ?_;rintro _ ⟨j,was,q,hj,hwas,hq,rfl⟩;have hjs:j * S<=1000 * 10:=MH (by omega) (by omega);by_cases hlw:was<e.times
    .have d2:decide (was<e.times)=true:=(by simpa using hlw);have ew1:IntKind.i64.wrap (q+(S:Int))=q+(S:Int):=ay (by omega) (by omega);have ew2:IntKind.i64.wrap (was+1)=was+1:=ay (by omega) (by omega);have hss:(j+1) * S=j * S+S:=MM j S
     repeat' first|refine gq ?_|simp only [ae,hlt,hev,hS,d2,ew1,ew2]|decide|refine sp ?_ ?_<;>intro _
     exact rI wC ⟨j+1,was+1,q+(S:Int),by omega,by omega,by rw [hss];omega,rfl⟩
    .have d2:decide (was<e.times)=false:=(by simpa using hlw);obtain rfl:j=J:=by omega
     have hev2:D2 m c k=((j * S:Nat):Int):=by rw [hE];simp
     repeat' first|refine gq ?_|simp only [ae,hlt,hev,d2]|decide|refine sp ?_ ?_<;>intro _
     exact rI wC ⟨k+1,q,by omega,by rw [dC,hev2,<- hn,hq],by omega,by omega,rfl⟩
   .have d1:decide (0<c[k])=false:=(by simpa using hpos);obtain rfl:w=0:=by rw [<- hw,rH,KY (by rw [KP,KN hkc];exact fun h=>hpos h.2)]
    repeat' first|refine gq ?_|simp only [ae,hlt,hkc,d1]|decide|refine sp ?_ ?_<;>intro _
    refine af (fun st=>∃ (j:Nat) (was q:Int),j<=J /\ was=0+(j:Int) /\ q=n+((j * S:Nat):Int) /\ st=⟨50,[(1,sI c),(2,.op 0 0 0),(5,eI q),(6,eI (k:Int)),(7,eI was)],[(0,some (.box 32 (aM m)))],1⟩) (fun st=>1000 - ap st 7) ⟨_,wC,0,0,n,KR _,by omega,by simp,rfl⟩ ?_;rintro _ ⟨j,was,q,hj,hwas,hq,rfl⟩;have hjs:j * S<=1000 * 10:=MH (by omega) (by omega);by_cases hlw:was<e.times
    .have d2:decide (was<e.times)=true:=(by simpa using hlw);have ew1:IntKind.i64.wrap (q+(S:Int))=q+(S:Int):=ay (by omega) (by omega);have ew2:IntKind.i64.wrap (was+1)=was+1:=ay (by omega) (by omega);have hss:(j+1) * S=j * S+S:=MM j S
     repeat' first|refine gq ?_|simp only [ae,hlt,hev,hS,d2,ew1,ew2]|decide|refine sp ?_ ?_<;>intro _
     exact rI wC ⟨j+1,was+1,q+(S:Int),by omega,by omega,by rw [hss];omega,rfl⟩
    .have d2:decide (was<e.times)=false:=(by simpa using hlw);obtain rfl:j=J:=by omega
     have hev2:D2 m c k=((j * S:Nat):Int):=by rw [hE];simp
     repeat' first|refine gq ?_|simp only [ae,hlt,hev,d2]|decide|refine sp ?_ ?_<;>intro _
     exact rI wC ⟨k+1,q,by omega,by rw [dC,hev2,<- hn,hq],by omega,by omega,rfl⟩
  .obtain rfl:w=0:=by rw [<- hw,rH,KY (fun h=>hkc h.1)]
   repeat' first|refine gq ?_|simp only [ae,hlt,hkc]|decide|refine sp ?_ ?_<;>intro _
   refine af (fun st=>∃ (j:Nat) (was q:Int),j<=J /\ was=0+(j:Int) /\ q=n+((j * S:Nat):Int) /\ st=⟨50,[(1,sI c),(2,.op 0 0 0),(5,eI q),(6,eI (k:Int)),(7,eI was)],[(0,some (.box 32 (aM m)))],1⟩) (fun st=>1000 - ap st 7) ⟨_,wC,0,0,n,KR _,by omega,by simp,rfl⟩ ?_;rintro _ ⟨j,was,q,hj,hwas,hq,rfl⟩;have hjs:j * S<=1000 * 10:=MH (by omega) (by omega);by_cases hlw:was<e.times
   .have d2:decide (was<e.times)=true:=(by simpa using hlw);have ew1:IntKind.i64.wrap (q+(S:Int))=q+(S:Int):=ay (by omega) (by omega);have ew2:IntKind.i64.wrap (was+1)=was+1:=ay (by omega) (by omega);have hss:(j+1) * S=j * S+S:=MM j S
    repeat' first|refine gq ?_|simp only [ae,hlt,hev,hS,d2,ew1,ew2]|decide|refine sp ?_ ?_<;>intro _
    exact rI wC ⟨j+1,was+1,q+(S:Int),by omega,by omega,by rw [hss];omega,rfl⟩
   .have d2:decide (was<e.times)=false:=(by simpa using hlw);obtain rfl:j=J:=by omega
    have hev2:D2 m c k=((j * S:Nat):Int):=by rw [hE];simp
    repeat' first|refine gq ?_|simp only [ae,hlt,hev,d2]|decide|refine sp ?_ ?_<;>intro _
    exact rI wC ⟨k+1,q,by omega,by rw [dC,hev2,<- hn,hq],by omega,by omega,rfl⟩
 .obtain rfl:k=m.events.length:=by omega
  repeat' first|refine gf @hlt ?_|decide|refine sp ?_ ?_<;>intro _
  exact hn
end
section
theorem oD (m:aR) (c:List Int) (he:m.events.length<=10) (hm:∀ e ∈ m.events,e.times<=10 /\ e.sets.length<=10) (hc:c.length<=1000000):aw Tryz.prog 82 [.agg (aM m),sI c] (val (.int .i64 (dC m c m.events.length))):=
 Au m c he (fun e h=>⟨by have:=(hm e h).1;omega,(hm e h).2⟩) hc
end
section
def lQ (m:aR) (c:List Int) (s:St):Nd:=⟨lI s.vals c (dC m s.cnt m.events.length),s.opn,s.don,s.did,s.cnt⟩
theorem Ck (m:aR) (c:List Int) (s:St) (he:m.events.length<=10) (hm:∀ e ∈ m.events,e.times<=10 /\ e.sets.length<=10) (h1:s.vals.length<=31) (h2:c.length<=400) (hv:∀ x ∈ s.vals,aq x) (hc:∀ x ∈ c,aq x) (h3:s.did.length<=1000000) (h4:s.cnt.length<=1000000):aw Tryz.prog 78 [.agg (aM m),sI c,.agg (i6 s)] ⟨.agg (dX (lQ m c s)),[],0⟩:=by
 have hL:=oD m s.cnt he hm h4;have hO:=CX s.vals c (dC m s.cnt m.events.length) h1 h2 hv hc;unfold lQ;obtain ⟨z,hz⟩:∃ z,lI s.vals c (dC m s.cnt m.events.length)=z:=⟨_,rfl⟩;rw [hz] at hO ⊢;refine aw.still (R:=⟨.agg [.sl 2 (z.cls.map bR),sI z.gaps,eI s.opn,eI s.don,.osl 0,.osl 1],[(0,some (.row 3 1 (s.did.map fun n=>[eI n]))),(1,some (.row 3 1 (s.cnt.map fun n=>[eI n])))],2⟩) [0,1] ?_ (by simp [ce.frzs,ce.frz,aa.gc,AV.frz,AV.frzL,bK,ar.frz]) (by simp [AV.lt,AV.ltL]);refine ab ah Tryz.func78 rfl (by decide) Tryz.ntmps78 Tryz.results78 rfl (jr (by simp [cg,ar.lt,AV.ltL,AV.lt]) (by simp [AV.lt,AV.ltL])) ?_
 repeat' first|refine go ?_|decide|refine sp ?_ ?_<;>intro _
 refine aB [2] [0,1,2,3,4,5,8,9,10,11,13,14,17,18] (.three 6 (.three 7 (.two 12 (.two 15 (.exec 16 (.exec 19 (.take 20 (.exec 21 .done)))) 16 (.exec 15 (.exec 19 (.take 20 (.exec 21 .done))))) 16 (.exec 12 (.exec 15 (.exec 19 (.take 20 (.exec 21 .done)))))) 12 (.two 7 (.two 15 (.exec 16 (.exec 19 (.take 20 (.exec 21 .done)))) 16 (.exec 15 (.exec 19 (.take 20 (.exec 21 .done))))) 16 (.exec 7 (.exec 15 (.exec 19 (.take 20 (.exec 21 .done)))))) 16 (.two 7 (.exec 12 (.exec 15 (.exec 19 (.take 20 (.exec 21 .done))))) 12 (.exec 7 (.exec 15 (.exec 19 (.take 20 (.exec 21 .done))))))) 12 (.two 6 (.two 7 (.two 15 (.exec 16 (.exec 19 (.take 20 (.exec 21 .done)))) 16 (.exec 15 (.exec 19 (.take 20 (.exec 21 .done))))) 16 (.exec 7 (.exec 15 (.exec 19 (.take 20 (.exec 21 .done)))))) 16 (.exec 6 (.exec 7 (.exec 15 (.exec 19 (.take 20 (.exec 21 .done))))))) 16 (.two 6 (.two 7 (.exec 12 (.exec 15 (.exec 19 (.take 20 (.exec 21 .done))))) 12 (.exec 7 (.exec 15 (.exec 19 (.take 20 (.exec 21 .done)))))) 12 (.exec 6 (.exec 7 (.exec 15 (.exec 19 (.take 20 (.exec 21 .done)))))))) (by kernel_rfl) (by simp [aa.gc]) ?_
 repeat' first|refine gq ?_|decide|refine sp ?_ ?_<;>intro _|refine cA hL ?_|refine cA hO ?_|(with_reducible apply And.intro)
 all_goals first
  | omega
  | rfl
  | exact ⟨[4,6],by decide,rfl,by simp [b9,aa.gc]⟩
  | exact ⟨[5,6],by decide,rfl,by simp [b9,aa.gc]⟩
  | exact ⟨[6,5],by decide,rfl,by simp [b9,aa.gc]⟩
  | exact ⟨[6,4],by decide,rfl,by simp [b9,aa.gc]⟩
end
section
theorem vj (m:aR):(co m).vals=m.inits /\ (co m).did.length=m.events.length /\ (co m).cnt.length=m.events.length:=by
 have h:=kD m (-1) (m.order.take m.order.length) (im m);unfold co jM;rw [h.1,h.2.1,h.2.2];simp [im]
theorem sj (m:aR) (c:List Int) (hf:p9 m) (hp:∀ p ∈ m.stages,aq p.2) (hi:∀ x ∈ m.inits,aq x) (hm:∀ e ∈ m.events,e.times<=10 /\ e.sets.length<=10) (h2:c.length<=400) (hc:∀ x ∈ c,aq x):aw Tryz.prog 32 [.agg (aM m),sI c] ⟨.agg (dX (lQ m c (co m))),[],0⟩:=by
 obtain ⟨-,-,-,hel,-,-,-,-,-,hil⟩:=id hf.sizes;obtain ⟨e1,e2,e3⟩:=vj m;have hB:=zF m hf hp;have hO:=Ck m c (co m) hel hm (by rw [e1];omega) h2 (by rw [e1];exact hi) hc (by omega) (by omega);have hok:(⟨.agg (dX (lQ m c (co m))),[],0⟩:ce).Ok:=⟨fun id o h=>(by cases h),by simp [AV.lt,AV.ltL]⟩;generalize lQ m c (co m)=nd at *;refine ab ah Tryz.func32 rfl (by decide) Tryz.ntmps32 Tryz.results32 rfl (hok) ?_
 repeat' first|refine go ?_|decide|refine sp ?_ ?_<;>intro _
 refine aB [1] [0,1,2] (.exec 3 (.exec 4 (.exec 5 .done))) (by kernel_rfl) (by simp [aa.gc]) ?_
 repeat' first|refine gq ?_|decide|refine sp ?_ ?_<;>intro _|refine cA hB ?_|refine cA hO ?_|(with_reducible apply And.intro)
 all_goals exact a5 (by first|rfl|simp [AV.ren,AV.renL])
end
section
def qF (m:aR) (n:Nd):St:=⟨List.replicate m.attrs.length 0,n.opn,n.don,n.did,n.cnt⟩
def x2 (m:aR) (c:List Int) (n:Nd):Prop:=un m (qF m n)=true /\ xC n.z (m.attrs.length:Int) c (dC m n.cnt m.events.length)
end
section
theorem EJ:(0:Int)<((4:Nat):Int):=by decide
theorem FO:(1:Int)<((4:Nat):Int):=by decide
theorem Fk:(2:Int)<((4:Nat):Int):=by decide
theorem Ec:(3:Int)<((4:Nat):Int):=by decide
def j8 (m:aR) (x:aJ):Bool:=
 if (decide (3<=x.op) && decide (x.op<=8))=true then decide (-1<=x.la) && decide (x.la<(m.attrs.length:Int)) && decide (-1<=x.ra) && decide (x.ra<(m.attrs.length:Int))
 else if (decide (x.op<9) || decide (12<x.op))=true then true
 else decide (0<=x.n) && decide (x.n<(if x.op=9 then (m.stages.length:Int) else if x.op=10 then (m.miles.length:Int) else (m.events.length:Int))) && (x.op != 12 || (decide (0<=x.u) && decide (x.u<(m.users.length:Int))))
theorem A5 (m:aR) (x:aJ):aw Tryz.prog 113 [.agg (aM m),.agg (jO x)] (val (.bool (j8 m x))):=by
 refine ab ah Tryz.func113 rfl (by decide) Tryz.ntmps113 Tryz.results113 rfl (aU _) ?_;obtain ⟨op,la,ln,ra,rn,n,u⟩:=x;by_cases h1:3<=op /\ op<=8
 .have e1:decide (3<=op)=true:=by simp;omega
  have e2:decide (op<=8)=true:=by simp;omega
  have eR:j8 m ⟨op,la,ln,ra,rn,n,u⟩=(decide (-1<=la) && decide (la<(m.attrs.length:Int)) && decide (-1<=ra) && decide (ra<(m.attrs.length:Int))):=by simp [j8,h1]
  rw [eR]
  repeat' first|refine ge (kf e1 e2) ?_|decide|refine sp ?_ ?_<;>intro _
  all_goals (rename_i h;simp at h;first|(simp_all;done)|(simp_all;omega))
 .by_cases h2:op<9 \/ 12<op
  .have eR:j8 m ⟨op,la,ln,ra,rn,n,u⟩=true:=by
    rcases h2 with h2|h2<;>simp [j8,h2]<;>omega
   rw [eR]
   repeat' first|refine go ?_|decide|refine sp ?_ ?_<;>intro _
   all_goals first|rfl|(exfalso;simp at *;omega)
  .have h3:op=9 \/ op=10 \/ op=11 \/ op=12:=(by omega);rcases h3 with rfl|rfl|rfl|rfl
   .have e1:decide ((3:Int)<=9)=true:=(by decide);have e2:decide ((9:Int)<=8)=false:=(by decide);have e3:decide ((9:Int)<9)=false:=(by decide);have e4:decide ((12:Int)<9)=false:=(by decide);have e5:((9:Int) != 12)=true:=(by decide);have ew:IntKind.i64.wrap ((9:Int) - 9)=0:=(by decide)
    repeat' first|refine ge (kf e1 (kf e2 (kf e3 (kf e4 (kf e5 ew))))) ?_|decide|refine sp ?_ ?_<;>intro _
    refine ⟨rfl,aD (by kernel_rfl) ?_⟩
    repeat' first|refine go ?_|simp only [e1,e2,e3,e4,e5,ew,EJ,FO,Fk,Ec,Int.reduceLE,Int.reduceLT,MR,Int.toNat_one,Int.reduceToNat,MA,Mn,Lm]|decide|refine sp ?_ ?_<;>intro _
    all_goals first|(simp_all [j8];done)|(simp_all [j8];omega)
   .have e1:decide ((3:Int)<=10)=true:=(by decide);have e2:decide ((10:Int)<=8)=false:=(by decide);have e3:decide ((10:Int)<9)=false:=(by decide);have e4:decide ((12:Int)<10)=false:=(by decide);have e5:((10:Int) != 12)=true:=(by decide);have ew:IntKind.i64.wrap ((10:Int) - 9)=1:=(by decide)
    repeat' first|refine ge (kf e1 (kf e2 (kf e3 (kf e4 (kf e5 ew))))) ?_|decide|refine sp ?_ ?_<;>intro _
    refine ⟨rfl,aD (by kernel_rfl) ?_⟩
    repeat' first|refine go ?_|simp only [e1,e2,e3,e4,e5,ew,EJ,FO,Fk,Ec,Int.reduceLE,Int.reduceLT,MR,Int.toNat_one,Int.reduceToNat,MA,Mn,Lm]|decide|refine sp ?_ ?_<;>intro _
    all_goals first|(simp_all [j8];done)|(simp_all [j8];omega)
   .have e1:decide ((3:Int)<=11)=true:=(by decide);have e2:decide ((11:Int)<=8)=false:=(by decide);have e3:decide ((11:Int)<9)=false:=(by decide);have e4:decide ((12:Int)<11)=false:=(by decide);have e5:((11:Int) != 12)=true:=(by decide);have ew:IntKind.i64.wrap ((11:Int) - 9)=2:=(by decide)
    repeat' first|refine ge (kf e1 (kf e2 (kf e3 (kf e4 (kf e5 ew))))) ?_|decide|refine sp ?_ ?_<;>intro _
    refine ⟨rfl,aD (by kernel_rfl) ?_⟩
    repeat' first|refine go ?_|simp only [e1,e2,e3,e4,e5,ew,EJ,FO,Fk,Ec,Int.reduceLE,Int.reduceLT,MR,Int.toNat_one,Int.reduceToNat,MA,Mn,Lm]|decide|refine sp ?_ ?_<;>intro _
    all_goals first|(simp_all [j8];done)|(simp_all [j8];omega)
   .have e1:decide ((3:Int)<=12)=true:=(by decide);have e2:decide ((12:Int)<=8)=false:=(by decide);have e3:decide ((12:Int)<9)=false:=(by decide);have e4:decide ((12:Int)<12)=false:=(by decide);have e5:((12:Int) != 12)=false:=(by decide);have ew:IntKind.i64.wrap ((12:Int) - 9)=3:=(by decide)
    repeat' first|refine ge (kf e1 (kf e2 (kf e3 (kf e4 (kf e5 ew))))) ?_|decide|refine sp ?_ ?_<;>intro _
    refine ⟨rfl,aD (by kernel_rfl) ?_⟩
    repeat' first|refine go ?_|simp only [e1,e2,e3,e4,e5,ew,EJ,FO,Fk,Ec,Int.reduceLE,Int.reduceLT,MR,Int.toNat_one,Int.reduceToNat,MA,Mn,Lm]|decide|refine sp ?_ ?_<;>intro _
    all_goals first|(simp_all [j8];done)|(simp_all [j8];omega)
end
section
theorem ml (m:aR) (hl:m.stages.length<=1000000):aw Tryz.prog 25 [.agg (aM m)] (gi 3 1 ((fy m).map fun n=>[eI n])):=by
 refine ab ah Tryz.func25 rfl (by decide) Tryz.ntmps25 Tryz.results25 rfl (dB _ _ _) ?_
 repeat' first|refine go ?_|decide|refine sp ?_ ?_<;>intro _
 refine af (fun st=>∃ k:Nat,k<=m.stages.length /\ st=⟨22,[(1,.op 0 0 0),(3,.osl 1),(4,eI (k:Int))],[(0,some (.box 32 (aM m))),(1,some (.row 3 1 ((m.stages.take k).map fun p=>[eI p.2])))],2⟩) (fun st=>m.stages.length - ap st 4) ⟨_,((bf 3 3 1 (by simp only [iu,ak.get,bl,ak.put,↓reduceIte,reduceCtorEq,Nat.reduceLT,Nat.reduceEqDiff,Nat.reduceAdd,Nat.reduceLeDiff,eq_self,implies_true,Lb,Lq])).trans (wS [0,1] @Lb)),0,KR _,rfl⟩ ?_;rintro _ ⟨k,hk,rfl⟩;by_cases hlt:k<m.stages.length
 .have et:(m.stages.take (k+1)).map (fun p=>[eI p.2])=(m.stages.take k).map (fun p=>[eI p.2]) ++ [[eI m.stages[k].2]]:=eU _ _ hlt
  repeat' first|refine go ?_|simp only [ae,hlt]|decide|refine sp ?_ ?_<;>intro _
  refine ⟨rfl,by simp only [K6];omega,rI (wS [0,3] et) ⟨k+1,by omega,rfl⟩⟩
 .obtain rfl:k=m.stages.length:=by omega
  repeat' first|refine go ?_|simp only [ae,hlt]|decide|refine sp ?_ ?_<;>intro _
  exact bk (by simp [aa.gc,fy])
end
section
theorem Fc (m:aR) (hf:p9 m):aw Tryz.prog 75 [.agg (aM m)] (val (.int .i64 ((m.guards.length+m.miles.length:Nat):Int))):=by
 refine ab ah Tryz.func75 rfl (by decide) Tryz.ntmps75 Tryz.results75 rfl (aU _) ?_;obtain ⟨hg,hm,-⟩:=id hf.sizes
 repeat' first|refine go ?_|decide|refine sp ?_ ?_<;>intro _
 rw [ay (by omega) (by omega)];simp
theorem vu (a b:Nat):IntKind.i64.wrap ((a+b:Nat) - (a:Int))=(b:Int) \/ b > 9223372036854775807:=by
 rcases Ld 9223372036854775807 b with h|h
 .exact .inr h
 .left;rw [ay (by omega) (by omega)];omega
def lu (m:aR) (i:Nat):Bool × Int:=if i<m.guards.length then (false,(i:Int)) else (true,((i - m.guards.length:Nat):Int))
def bP (m:aR) (i:Nat):Int:=if h:i<m.guards.length then m.guards[i].stage else (m.miles[i - m.guards.length]?.map (·.stage)).getD 0
def jB (m:aR) (i:Nat):List aJ:=if h:i<m.guards.length then m.guards[i].cond else (m.miles[i - m.guards.length]?.map (·.cond)).getD []
theorem Gc (m:aR) (i:Nat) (hf:p9 m) (hi:i<m.guards.length+m.miles.length):aw Tryz.prog 77 [.agg (aM m),eI (i:Int)] ⟨.agg (ta (lu m i)),[],0⟩:=by
 refine ab ah Tryz.func77 rfl (by decide) Tryz.ntmps77 Tryz.results77 rfl (⟨fun id o h=>(by cases h),⟨trivial,trivial,trivial⟩⟩) ?_;obtain ⟨hg,hm,-⟩:=id hf.sizes;by_cases hlt:i<m.guards.length
 .have e:lu m i=(false,(i:Int)):=by simp [lu,hlt]
  rw [e]
  repeat' first|refine ge @hlt ?_|decide|refine sp ?_ ?_<;>intro _
  exact a5 (by simp [AV.ren,AV.renL])
 .obtain ⟨j,rfl⟩:∃ j,i=m.guards.length+j:=⟨i - m.guards.length,by omega⟩;have e:lu m (m.guards.length+j)=(true,(j:Int)):=by simp [lu]
  have ew:IntKind.i64.wrap (((m.guards.length+j:Nat):Int) - (m.guards.length:Int))=(j:Int):=(vu _ _).resolve_right (by omega);rw [e]
  repeat' first|refine ge (kf @hlt ew) ?_|decide|refine sp ?_ ?_<;>intro _
  exact a5 (by simp [AV.ren,AV.renL])
theorem ji (m:aR) (i:Nat) (hf:p9 m) (hi:i<m.guards.length+m.miles.length):aw Tryz.prog 117 [.agg (aM m),eI (i:Int)] (val (.int .i64 (bP m i))):=by
 refine ab ah Tryz.func117 rfl (by decide) Tryz.ntmps117 Tryz.results117 rfl (aU _) ?_;obtain ⟨hg,hm,-⟩:=id hf.sizes;by_cases hlt:i<m.guards.length
 .have e:bP m i=m.guards[i].stage:=by simp [bP,hlt]
  rw [e]
  repeat' first|refine go ?_|simp only [hlt,ae]|decide|refine sp ?_ ?_<;>intro _
 .obtain ⟨j,rfl⟩:∃ j,i=m.guards.length+j:=⟨i - m.guards.length,by omega⟩;have hj:j<m.miles.length:=by omega
  have e:bP m (m.guards.length+j)=m.miles[j].stage:=by simp only [bP];rw [dif_neg (by omega)];simp [hj]
  have ew:IntKind.i64.wrap (((m.guards.length+j:Nat):Int) - (m.guards.length:Int))=(j:Int):=(vu _ _).resolve_right (by omega);rw [e]
  repeat' first|refine go ?_|simp only [hlt,ew,hj,ae]|decide|refine sp ?_ ?_<;>intro _
theorem HD (m:aR) (i:Nat) (hf:p9 m) (hi:i<m.guards.length+m.miles.length):aw Tryz.prog 115 [.agg (aM m),eI (i:Int)] ⟨bw (jB m i),[],0⟩:=by
 refine ab ah Tryz.func115 rfl (by decide) Tryz.ntmps115 Tryz.results115 rfl (⟨fun id o h=>(by cases h),trivial⟩) ?_;obtain ⟨hg,hm,-⟩:=id hf.sizes;by_cases hlt:i<m.guards.length
 .have e:jB m i=m.guards[i].cond:=by simp [jB,hlt]
  rw [e]
  repeat' first|refine go ?_|simp only [hlt,ae]|decide|refine sp ?_ ?_<;>intro _
  exact a5 (by simp [AV.ren,AV.renL])
 .obtain ⟨j,rfl⟩:∃ j,i=m.guards.length+j:=⟨i - m.guards.length,by omega⟩;have hj:j<m.miles.length:=by omega
  have e:jB m (m.guards.length+j)=m.miles[j].cond:=by simp only [jB];rw [dif_neg (by omega)];simp [hj]
  have ew:IntKind.i64.wrap (((m.guards.length+j:Nat):Int) - (m.guards.length:Int))=(j:Int):=(vu _ _).resolve_right (by omega);rw [e]
  repeat' first|refine go ?_|simp only [hlt,ew,hj,ae]|decide|refine sp ?_ ?_<;>intro _
  exact a5 (by simp [AV.ren,AV.renL])
theorem vW (m:aR) (hf:p9 m) (i:Nat):(jB m i).length<=80:=by
 unfold jB;split
 .exact hf.guards _ (KQ _)
 .rcases Ld (i - m.guards.length) m.miles.length with h | h
  .simp [KN h];exact hf.miles _ (KQ _)
  .simp [Lh h]
end
section
def rP (st:ak) (id:Nat):Nat:=match st.tab.get id with | some (.row _ _ rows)=>rows.length | _=>0
end
section
structure KG (m:aR):Prop where
 attrs:m.attrs.length<=5
 inits:m.inits.length=m.attrs.length
 users:m.users.length<=4
 roles:m.roles.length<=4
 stages:m.stages.length<=8
 events:m.events.length<=6
 guards:m.guards.length<=12
 miles:m.miles.length<=8
 sods:m.sods.length<=6
 circle:jv (fy m)<0
end
section
theorem Cn (r:Int):cj r<=1048576:=by
 unfold cj;have h1:(2:Nat) ^ (min r.toNat 20)<=2 ^ 20:=Lu (by omega) (by omega);have h2:((2 ^ (min r.toNat 20):Nat):Int)=(2:Int) ^ (min r.toNat 20):=by simp
 omega
end
section
theorem rF (m:aR) (c:List Int) (n:Nd) (he:m.events.length<=10) (hm:∀ e ∈ m.events,e.times<=10 /\ e.sets.length<=10) (ha:m.attrs.length<=1000000) (h1:n.z.cls.length<=40) (h2:n.z.gaps.length<=40) (h3:c.length<=100000) (hc:∀ x ∈ c,aq x) (hat:∀ x ∈ n.z.cls,aq x.attrs) (h5:n.did.length<=1000000) (h4:n.cnt.length<=1000000) (hop:aq n.opn) (hdo:aq n.don) (hdid:∀ x ∈ n.did,aq x):cT Tryz.prog 80 [.agg (aM m),sI c,.agg (dX n)] fun R=>∃ b,R=val (.bool b) /\ (b=true ↔ x2 m c n):=by
 refine ba ah Tryz.func80 rfl (by decide) Tryz.ntmps80 Tryz.results80 rfl ?_;have hSt:=rb n h5 h4;have hS:=DW m (qF m n) (by omega) hop hdo hdid;have hL:=oD m n.cnt he hm h4;have hrep:List.replicate m.attrs.length [eI 0]=(List.replicate m.attrs.length 0).map fun n=>[eI n]:=by simp
 obtain ⟨t,ht,hZ⟩:=ki (y8 n.z (m.attrs.length:Int) c (dC m n.cnt m.events.length) h1 h2 h3 hc (Cn _) hat);unfold x2;rw [<- ht];clear ht;generalize dC m n.cnt m.events.length=L at *
 cases hb:un m (qF m n) with
 | true=>
  rw [hb] at hS
  repeat' first|refine gq ?_|decide|refine sp ?_ ?_<;>intro _|refine cA hSt ?_|fail
  refine ⟨⟨by omega,by omega⟩,?_⟩
  repeat' first|refine gq ?_|simp only [hrep,qF]|decide|refine sp ?_ ?_<;>intro _|refine cA hS ?_|refine cA hL ?_|refine cA hZ ?_|fail
  all_goals exact bZ ⟨t,rfl,by simp⟩
 | false=>
  rw [hb] at hS
  repeat' first|refine gq ?_|decide|refine sp ?_ ?_<;>intro _|refine cA hSt ?_|fail
  refine ⟨⟨by omega,by omega⟩,?_⟩
  repeat' first|refine gq ?_|simp only [hrep,qF]|decide|refine sp ?_ ?_<;>intro _|refine cA hS ?_|refine cA hL ?_|refine cA hZ ?_|fail
  all_goals exact bZ ⟨false,rfl,by simp⟩
end
end
end Go.Proofs.YtiaiihjmmfakdaaGreatDoor
